/- Numbers bit by bit, the highest first: no program. -/
import Derived.Test.YtbkblhoagfonjaaKSb3
import Derived.OrdersHeld
import Derived.Test.YtbkblhoagfonjaaKSb1
import Derived.Lib.BitFns
/- A region that draws its order, walked once in an order of ours. No program. -/
namespace Go.Tn
open Go.RowKit

section
variable {P : Program} {ops : Array Oper} {Q : Exit → Act → World → Prop} {S : World → Prop} {k : Nat → Nat}

/-- What is asked behind an operation: one of kind 0 has left the world as it was; behind one of kind 1 S holds. -/
def Ob (S : World → Prop) (k : Nat) (w w' : World) : Prop := (k = 0 → w' = w) ∧ (k = 1 → S w')

/-- Whatever order is picked from here on. -/
def anyX (P : Program) (ops : Array Oper) (Q : Exit → Act → World → Prop) (S : World → Prop) (k : Nat → Nat) : Nat → Array Bool → Act → World → Prop
  | 0, listed, a, w => Region.ready .any ops listed = [] ∧ Q .normal a w
  | fuel + 1, listed, a, w =>
    (Region.ready .any ops listed = [] → Q .normal a w) ∧
    ∀ i ∈ Region.ready .any ops listed, wpOp P ops Q i (fun a' w' => Ob S (k i) w w' ∧ anyX P ops Q S k fuel (listed.setIfInBounds i true) a' w') a w

theorem wpAny_of_anyX : ∀ (fuel : Nat) (listed : Array Bool) (a : Act) (w : World), anyX P ops Q S k fuel listed a w → wpAny P .any ops Q fuel listed a w
  | 0, _, _, _, h => h
  | fuel + 1, _, _, _, h => ⟨h.1, fun i hi => wpOp_mono (fun a' w' h' => wpAny_of_anyX fuel _ a' w' h'.2) (h.2 i hi)⟩

/-- An operation that yields its value in every world may be taken first. -/
theorem anyX_take {i : Nat} {oi : Oper} {v : Value} (hi : ops[i]? = some oi) (hk : k i = 0) (hsel : ∀ (j : Nat) (o : Oper) cs b, ops[j]? = some o → o.op ≠ .select cs b)
    (hQ : ∀ d v c a w, Q (.panic c) (Act.put a d v) w → Q (.panic c) a w) :
    ∀ (fuel : Nat) (listed : Array Bool) (a : Act) (w : World),
      (∀ j oj, ops[j]? = some oj → j ≠ i → listed.getD j true = false → (∀ e ∈ oj.after, Region.binds .any e = true → e.on ≠ i) → oi.apart ops oj = true) →
      i ∈ Region.ready .any ops listed → Yields P ops oi v a →
      anyX P ops Q S k fuel (listed.setIfInBounds i true) (a.put oi.dst v) w → anyX P ops Q S k (fuel + 1) listed a w := by
  have ob : ∀ w : World, Ob S (k i) w w := fun w => ⟨fun _ => rfl, fun h => by rw [hk] at h; cases h⟩
  intro fuel
  induction fuel with
  | zero =>
    intro listed a w _ hr hy H
    refine ⟨fun h => (by rw [h] at hr; cases hr), fun j hj => ?_⟩
    by_cases hji : j = i
    · subst hji; exact hy.wpOp hi ⟨ob w, H⟩
    · have := ready_mono hj hji
      rw [H.1] at this
      cases this
  | succ fuel ih =>
    intro listed a w hfree hr hy H
    refine ⟨fun h => (by rw [h] at hr; cases hr), fun j hj => ?_⟩
    by_cases hji : j = i
    · subst hji; exact hy.wpOp hi ⟨ob w, H⟩
    · have h1 := H.2 j (ready_mono hj hji)
      obtain ⟨hjun, oj, hoj, hall⟩ := mem_ready.1 hj
      have hnot : ∀ e ∈ oj.after, Region.binds .any e = true → e.on ≠ i := fun e he hb heq => by
        have h1 := hall e he hb
        rw [heq, getD_both (mem_ready.1 hr).1] at h1
        cases h1
      have h2 := wpOp_put hoj (hfree j oj hoj hji hjun hnot) (fun cs b => hsel i oi cs b hi) (fun cs b => hsel j oj cs b hoj) (fun c a w => hQ _ _ c a w) hy h1
      refine wpOp_mono (fun a' w' h3 => ⟨h3.2.1, ih (listed.setIfInBounds j true) a' w' (fun k ok hk hki hunk hno => hfree k ok hk hki ?_ hno) (ready_mono hr (Ne.symm hji)) h3.1 ?_⟩) h2
      · by_cases hjk : j = k
        · subst hjk; exact hjun
        · rw [getD_set_ne true hjk] at hunk; exact hunk
      · rw [Array.setIfInBounds_comm _ _ hji]
        exact h3.2.2

/-- Of what has come up, all that it waits for has come up. -/
structure Cl (ops : Array Oper) (listed : Array Bool) : Prop where
  size : listed.size = ops.size
  closed : ∀ j oj, ops[j]? = some oj → listed.getD j false = true → ∀ e ∈ oj.after, Region.binds .any e = true → listed.getD e.on false = true

theorem Cl.set {i : Nat} {listed : Array Bool} (inv : Cl ops listed) (hi : i ∈ Region.ready .any ops listed) : Cl ops (listed.setIfInBounds i true) := by
  obtain ⟨_, oi, hoi, hall⟩ := mem_ready.1 hi
  refine ⟨by simp [inv.size], fun j oj hj hl e he hb => ?_⟩
  by_cases hij : i = j
  · subst hij
    have : oj = oi := Option.some.inj (hj.symm.trans hoi)
    subst this
    exact getD_set_true (hall e he hb)
  · rw [getD_set_ne false hij] at hl
    exact getD_set_true (inv.closed j oj hj hl e he hb)

/-- An operation that yields its value in every world that meets S may be taken first, if none of kind 2 can come before it. -/
theorem anyX_read {i : Nat} {oi : Oper} {v : Value} (hi : ops[i]? = some oi) (hk : k i = 0) (hk3 : ∀ j, k j = 0 ∨ k j = 1 ∨ k j = 2) (hsel : ∀ (j : Nat) (o : Oper) cs b, ops[j]? = some o → o.op ≠ .select cs b)
    (hQ : ∀ d v c a w, Q (.panic c) (Act.put a d v) w → Q (.panic c) a w) (hgate : ∀ listed : Array Bool, listed.getD i true = false → Cl ops listed → ∀ j, k j = 2 → j ∉ Region.ready .any ops listed) :
    ∀ (fuel : Nat) (listed : Array Bool) (a : Act) (w : World), Cl ops listed →
      (∀ j oj, ops[j]? = some oj → j ≠ i → listed.getD j true = false → (∀ e ∈ oj.after, Region.binds .any e = true → e.on ≠ i) → oi.apart ops oj = true) →
      i ∈ Region.ready .any ops listed → YieldsIf P ops S oi v a → S w →
      anyX P ops Q S k fuel (listed.setIfInBounds i true) (a.put oi.dst v) w → anyX P ops Q S k (fuel + 1) listed a w := by
  have ob : ∀ w : World, Ob S (k i) w w := fun w => ⟨fun _ => rfl, fun h => by rw [hk] at h; cases h⟩
  intro fuel
  induction fuel with
  | zero =>
    intro listed a w _ _ hr hy hS H
    refine ⟨fun h => (by rw [h] at hr; cases hr), fun j hj => ?_⟩
    by_cases hji : j = i
    · subst hji; exact hy.wpOp hi hS ⟨ob w, H⟩
    · have := ready_mono hj hji
      rw [H.1] at this
      cases this
  | succ fuel ih =>
    intro listed a w hout hfree hr hy hS H
    refine ⟨fun h => (by rw [h] at hr; cases hr), fun j hj => ?_⟩
    by_cases hji : j = i
    · subst hji; exact hy.wpOp hi hS ⟨ob w, H⟩
    · have h1 := H.2 j (ready_mono hj hji)
      obtain ⟨hjun, oj, hoj, hall⟩ := mem_ready.1 hj
      have hnot : ∀ e ∈ oj.after, Region.binds .any e = true → e.on ≠ i := fun e he hb heq => by
        have h1 := hall e he hb
        rw [heq, getD_both (mem_ready.1 hr).1] at h1
        cases h1
      have h2 := wpOp_putIf hoj (hfree j oj hoj hji hjun hnot) (fun cs b => hsel i oi cs b hi) (fun cs b => hsel j oj cs b hoj) (fun c a w => hQ _ _ c a w) hy h1
      refine wpOp_mono (fun a' w' h3 => ⟨h3.2.1, ih (listed.setIfInBounds j true) a' w' ?_ (fun k ok hk hki hunk hno => hfree k ok hk hki ?_ hno) (ready_mono hr (Ne.symm hji)) h3.1 ?_ ?_⟩) h2
      · exact hout.set hj
      · by_cases hjk : j = k
        · subst hjk; exact hjun
        · rw [getD_set_ne true hjk] at hunk; exact hunk
      · rcases hk3 j with h | h | h
        · rw [h3.2.1.1 h]; exact hS
        · exact h3.2.1.2 h
        · exact absurd hj (hgate listed (mem_ready.1 hr).1 hout j h)
      · rw [Array.setIfInBounds_comm _ _ hji]
        exact h3.2.2

/-! ### The order as a list: each operation with its tag: 0 reads under S, 1 yields in every world, 2 is the only one that may come (and S is shown behind it), 3 likewise, gated -/
def kindOf (ord : List (Nat × Nat)) (j : Nat) : Nat :=
  match ord.find? (·.1 == j) with
  | some (_, 0) | some (_, 1) | none => 0
  | some (_, 2) => 1
  | some _ => 2

theorem kindOf_three (ord : List (Nat × Nat)) (j : Nat) : kindOf ord j = 0 ∨ kindOf ord j = 1 ∨ kindOf ord j = 2 := by
  unfold kindOf
  split <;> simp

/-- Each gated operation waits, itself or through the first gated one, for each that reads. -/
def gatesB (ops : Array Oper) (ord : List (Nat × Nat)) : Bool :=
  let gated := (ord.filter (·.2 == 3)).map (·.1)
  let reads := (ord.filter (·.2 == 0)).map (·.1)
  gated.all fun t => reads.all fun r => Region.waitsFor .any ops t r || gated.any fun g => Region.waitsFor .any ops t g && Region.waitsFor .any ops g r && decide (t ≠ g)

def stepsB (ops : Array Oper) : List (Nat × Nat) → Array Bool → Bool
  | [], listed => (Region.ready .any ops listed).isEmpty
  | (i, t) :: r, listed =>
    (match ops[i]? with
      | some o => o.guard.isNone && decide (i < listed.size) &&
        (if t = 0 ∨ t = 1 then Region.free .any ops listed i && (Region.ready .any ops listed).contains i else decide (Region.ready .any ops listed = [i]))
      | none => false) && stepsB ops r (listed.setIfInBounds i true)

def orderB (ops : Array Oper) (ord : List (Nat × Nat)) : Bool :=
  Region.noSelect ops && decide (ord.length = ops.size) && gatesB ops ord && stepsB ops ord (Array.replicate ops.size false) && decide (ord.map (·.1)).Nodup && ord.all fun x => decide (x.2 ≤ 3)

/-- The walk in that order. -/
def wpX (P : Program) (ops : Array Oper) (Q : Exit → Act → World → Prop) (S : World → Prop) : List (Nat × Nat) → Act → World → Prop
  | [], a, w => Q .normal a w
  | (i, t) :: r, a, w => ∃ o, ops[i]? = some o ∧
    match t with
    | 0 => S w ∧ ∃ v, (∀ w, S w → (execOp a.eval o).run P w = .ok (.value v) w) ∧ wpX P ops Q S r (a.put o.dst v) w
    | 1 => ∃ v, (∀ w, (execOp a.eval o).run P w = .ok (.value v) w) ∧ wpX P ops Q S r (a.put o.dst v) w
    | 2 => o.wp P a w (fun a' w' => S w' ∧ wpX P ops Q S r a' w') Q
    | _ => o.wp P a w (wpX P ops Q S r) Q ∨ (o.asks P a w ∧ LetsOut Q)

theorem kindOf_mem {ord : List (Nat × Nat)} (hnd : (ord.map (·.1)).Nodup) {i t : Nat} (h : (i, t) ∈ ord) : ord.find? (·.1 == i) = some (i, t) := by
  induction ord with
  | nil => cases h
  | cons x r ih =>
    simp only [List.map_cons, List.nodup_cons] at hnd
    rcases List.mem_cons.1 h with rfl | h
    · simp
    · have : x.1 ≠ i := fun e => hnd.1 (List.mem_map.2 ⟨(i, t), h, e.symm⟩)
      simp only [List.find?_cons, beq_eq_false_iff_ne.2 this]
      exact ih hnd.2 h

theorem gates_spec {ord : List (Nat × Nat)} (hnd : (ord.map (·.1)).Nodup) (hg : gatesB ops ord = true) {i : Nat} (hi : (i, 0) ∈ ord) (h3 : ∀ x ∈ ord, x.2 ≤ 3) (listed : Array Bool) (hun : listed.getD i false = false)
    (hcl : ∀ j oj, ops[j]? = some oj → listed.getD j false = true → ∀ e ∈ oj.after, Region.binds .any e = true → listed.getD e.on false = true) :
    ∀ j, kindOf ord j = 2 → j ∉ Region.ready .any ops listed := by
  intro j hj hr
  have hmem : (j, 3) ∈ ord := by
    unfold kindOf at hj
    split at hj <;> first | cases hj | skip
    rename_i x h0 h1 h2 hf
    obtain ⟨a, b⟩ := x
    have hm := List.mem_of_find?_eq_some hf
    have hp := List.find?_some hf
    simp at hp
    subst hp
    have := h3 _ hm
    match b, this with
    | 0, _ => exact absurd rfl (h0 a)
    | 1, _ => exact absurd rfl (h1 a)
    | 2, _ => exact absurd rfl (h2 a)
    | 3, _ => exact hm
  simp only [gatesB, List.all_eq_true, List.mem_map, List.mem_filter, List.any_eq_true, Bool.or_eq_true, Bool.and_eq_true, forall_exists_index, and_imp] at hg
  have hjg := hg j (j, 3) hmem (by simp) rfl i (i, 0) hi (by simp) rfl
  rcases hjg with h | ⟨g, ⟨⟨x, _, rfl⟩, ⟨h1, h2⟩, _⟩⟩
  · exact not_ready h hun hr
  · have hgl : listed.getD x.1 false = true := by
      cases hl : listed.getD x.1 false with
      | true => rfl
      | false => exact absurd hr (not_ready h1 hl)
    obtain ⟨og, hog, e, he, hb, hon⟩ := Region.waitsFor_spec h2
    have := hcl x.1 og hog hgl e he hb
    rw [hon, hun] at this
    cases this


theorem anyX_of_wpX {full : List (Nat × Nat)} (hsel : Region.noSelect ops = true) (hQ : ∀ d v c a w, Q (.panic c) (Act.put a d v) w → Q (.panic c) a w) (hnd : (full.map (·.1)).Nodup) (hg : gatesB ops full = true) (h3 : ∀ x ∈ full, x.2 ≤ 3) :
    ∀ (ord : List (Nat × Nat)) (listed : Array Bool) (a : Act) (w : World), (∀ x ∈ ord, x ∈ full) → Cl ops listed → stepsB ops ord listed = true → wpX P ops Q S ord a w → anyX P ops Q S (kindOf full) ord.length listed a w
  | [], listed, a, w, _, _, hB, h => ⟨by simpa [stepsB] using hB, h⟩
  | (i, t) :: r, listed, a, w, hsub, hcl, hB, h => by
    simp only [stepsB, Bool.and_eq_true] at hB
    obtain ⟨h1, h2⟩ := hB
    obtain ⟨o, ho, h⟩ := h
    simp only [ho, Bool.and_eq_true, Option.isNone_iff_eq_none, decide_eq_true_eq] at h1
    obtain ⟨⟨hgd, hlt⟩, h1⟩ := h1
    have hw : Region.wanted o (yielded ops a.tmps) = true := by simp [Region.wanted, hgd]
    have hmem : (i, t) ∈ full := hsub _ (by simp)
    have hsub' : ∀ x ∈ r, x ∈ full := fun x hx => hsub x (by simp [hx])
    have hk : kindOf full i = (match t with | 0 => 0 | 1 => 0 | 2 => 1 | _ => 2) := by
      unfold kindOf
      rw [kindOf_mem hnd hmem]
      match t with
      | 0 => rfl
      | 1 => rfl
      | 2 => rfl
      | t + 3 => rfl
    rcases t with _ | _ | _ | t
    · obtain ⟨hS, v, hv, hn⟩ := h
      simp only [true_or, if_true, Bool.and_eq_true] at h1
      have hr : i ∈ Region.ready .any ops listed := by simpa using h1.2
      exact anyX_read ho hk (kindOf_three full) (Region.noSelect_spec hsel) hQ (fun listed' hun hcl' => gates_spec hnd hg hmem h3 listed' (getD_both hun) hcl'.closed) r.length listed a w hcl (Region.free_spec ho h1.1) hr
        (.inl ⟨hw, hv⟩) hS (anyX_of_wpX hsel hQ hnd hg h3 r _ _ _ hsub' (hcl.set hr) h2 hn)
    · obtain ⟨v, hv, hn⟩ := h
      simp only [Nat.zero_add, or_true, if_true, Bool.and_eq_true] at h1
      have hr : i ∈ Region.ready .any ops listed := by simpa using h1.2
      exact anyX_take ho hk (Region.noSelect_spec hsel) hQ r.length listed a w (Region.free_spec ho h1.1) hr (.inl ⟨hw, hv⟩) (anyX_of_wpX hsel hQ hnd hg h3 r _ _ _ hsub' (hcl.set hr) h2 hn)
    · have hr : Region.ready .any ops listed = [i] := by simpa using h1
      refine ⟨fun h0 => absurd (hr ▸ h0) (by simp), fun j hj => ?_⟩
      obtain rfl : j = i := by rw [hr] at hj; simpa using hj
      unfold wpOp
      simp only [ho, hw, if_true]
      refine .inl (Oper.wp_mono (fun a' w' h' => ⟨⟨fun h0 => ?_, fun _ => h'.1⟩, anyX_of_wpX hsel hQ hnd hg h3 r _ a' w' hsub' (hcl.set hj) h2 h'.2⟩) h)
      rw [hk] at h0; cases h0
    · have hr : Region.ready .any ops listed = [i] := by simpa using h1
      refine ⟨fun h0 => absurd (hr ▸ h0) (by simp), fun j hj => ?_⟩
      obtain rfl : j = i := by rw [hr] at hj; simpa using hj
      unfold wpOp
      simp only [ho, hw, if_true]
      refine h.imp (Oper.wp_mono (fun a' w' h' => ⟨⟨fun h0 => ?_, fun h0 => ?_⟩, anyX_of_wpX hsel hQ hnd hg h3 r _ a' w' hsub' (hcl.set hj) h2 h'⟩)) id
      · rw [hk] at h0; cases h0
      · rw [hk] at h0; cases h0

/-- A region that draws its order, walked once in an order of ours. -/
theorem wp_region_x {id : Nat} {ops : Array Oper} {a : Act} {w : World} (S : World → Prop) (ord : List (Nat × Nat)) (hm : P.follows .mixedOrders = true) (hB : orderB ops ord = true)
    (hQ : ∀ d v c a w, Q (.panic c) (Act.put a d v) w → Q (.panic c) a w) (h : wpX P ops Q S ord a w.drew) : (Code.region id ops true).wp P Q a w := by
  simp only [orderB, Bool.and_eq_true, decide_eq_true_eq, List.all_eq_true] at hB
  obtain ⟨⟨⟨⟨⟨hsel, hlen⟩, hg⟩, hs⟩, hnd⟩, h3⟩ := hB
  refine wp_region_any hm (wpAny_of_anyX (S := S) (k := kindOf ord) _ _ _ _ ?_)
  have := anyX_of_wpX hsel hQ hnd hg h3 ord (Array.replicate ops.size false) a w.drew (fun _ h => h) ⟨by simp, fun j oj _ hl => (by rw [getD_replicate_false] at hl; cases hl)⟩ hs h
  rw [hlen] at this
  exact this

/-! ### Steps -/
theorem x_nil {a : Act} {w : World} (h : Q .normal a w) : wpX P ops Q S [] a w := h
theorem x_read {i : Nat} {r : List (Nat × Nat)} {a : Act} {w : World} {o : Oper} (ho : ops[i]? = some o) (hS : S w) {v : Value} (hv : ∀ w, S w → (execOp a.eval o).run P w = .ok (.value v) w) (h : wpX P ops Q S r (a.put o.dst v) w) : wpX P ops Q S ((i, 0) :: r) a w :=
  ⟨o, ho, hS, v, hv, h⟩
theorem x_take {i : Nat} {r : List (Nat × Nat)} {a : Act} {w : World} {o : Oper} (ho : ops[i]? = some o) (h : ∀ K : Act → Prop, (∀ a, wpX P ops Q S r a w → K a) → ∃ v, (∀ w, (execOp a.eval o).run P w = .ok (.value v) w) ∧ K (a.put o.dst v)) : wpX P ops Q S ((i, 1) :: r) a w := by
  obtain ⟨v, hv, hn⟩ := h _ (fun _ h => h)
  exact ⟨o, ho, v, hv, hn⟩
/-- A step that may turn the world, ungated, gated: what follows behind a variable. -/
theorem x_show' {i : Nat} {r : List (Nat × Nat)} {a : Act} {w : World} {o : Oper} (ho : ops[i]? = some o) (h : ∀ K : Act → World → Prop, (∀ a w, S w → wpX P ops Q S r a w → K a w) → o.wp P a w K Q) : wpX P ops Q S ((i, 2) :: r) a w :=
  ⟨o, ho, h _ (fun _ _ h1 h2 => ⟨h1, h2⟩)⟩
theorem x_exec' {i : Nat} {r : List (Nat × Nat)} {a : Act} {w : World} {o : Oper} (ho : ops[i]? = some o) (h : ∀ K : Act → World → Prop, (∀ a w, wpX P ops Q S r a w → K a w) → o.wp P a w K Q) : wpX P ops Q S ((i, 3) :: r) a w :=
  ⟨o, ho, .inl (h _ (fun _ _ h => h))⟩
theorem x_show {i : Nat} {r : List (Nat × Nat)} {a : Act} {w : World} {o : Oper} (ho : ops[i]? = some o) {v : Value} {w' : World} (hr : (execOp a.eval o).run P w = .ok (.value v) w') (hS : S w') (h : wpX P ops Q S r (a.put o.dst v) w') : wpX P ops Q S ((i, 2) :: r) a w := by
  refine ⟨o, ho, ?_⟩
  simp only [Oper.wp, hr, Oper.upon]
  exact ⟨hS, h⟩
theorem x_exec {i : Nat} {r : List (Nat × Nat)} {a : Act} {w : World} {o : Oper} (ho : ops[i]? = some o) {v : Value} {w' : World} (hr : (execOp a.eval o).run P w = .ok (.value v) w') (h : wpX P ops Q S r (a.put o.dst v) w') : wpX P ops Q S ((i, 3) :: r) a w := by
  refine ⟨o, ho, .inl ?_⟩
  simp only [Oper.wp, hr, Oper.upon]
  exact h
theorem x_skip {i : Nat} {r : List (Nat × Nat)} {a : Act} {w : World} {o : Oper} (ho : ops[i]? = some o) {w' : World} (hr : (execOp a.eval o).run P w = .ok .skip w') (h : wpX P ops Q S r (a.put o.dst undef) w') : wpX P ops Q S ((i, 3) :: r) a w := by
  refine ⟨o, ho, .inl ?_⟩
  simp only [Oper.wp, hr, Oper.upon]
  exact h
/-- What is left is gated, or a copy or a component: on as a plain list. -/
theorem x_tail : ∀ {r : List (Nat × Nat)} {a : Act} {w : World}, (r.all fun x => match ops[x.1]? with | some o => o.guard.isNone && (decide (x.2 = 3) || decide (x.2 = 1) && pureB o) | none => false) = true →
    wpList P ops Q (r.filterMap fun x => ops[x.1]?) a w → wpX P ops Q S r a w
  | [], a, w, _, h => h
  | (i, t) :: r, a, w, hB, h => by
    simp only [List.all_cons, Bool.and_eq_true] at hB
    obtain ⟨h1, h2⟩ := hB
    cases ho : ops[i]? with
    | none => simp [ho] at h1
    | some o =>
      simp only [ho, Bool.and_eq_true, Bool.or_eq_true, Option.isNone_iff_eq_none, decide_eq_true_eq] at h1
      simp only [List.filterMap_cons, ho] at h
      obtain ⟨hg, ht⟩ := h1
      refine ⟨o, ho, ?_⟩
      simp only [wpList, Region.wanted, hg, if_true] at h
      rcases ht with rfl | ⟨rfl, hp⟩
      · exact h.imp (Oper.wp_mono (fun a' w' h' => x_tail h2 h')) id
      · rcases h with h | h
        · rcases pure_run (P := P) hp a w with ⟨v, hv⟩ | ⟨x, hx⟩
          · simp only [Oper.wp, hv w, Oper.upon] at h
            exact ⟨v, hv, x_tail h2 h⟩
          · simp only [Oper.wp, hx, Oper.upon] at h
        · exact absurd h.1 (pure_asks hp a w)

/-- A composite literal, by what its parts are. -/
theorem exec_build {ρ : Operand → Value} {dst : Option Tmp} {ty : TypeId} {pos : String} {after : Array Edge} {g : Option (Nat × Bool)} {t : TypeId} {parts : Array (Nat × Operand)} {vals : Array (Nat × Value)} {w : World} {v : Value} (hp : parts.toList.map (fun x => (x.1, ρ x.2)) = vals.toList) (hr : (Instr.build t vals).run P w = .ok v w) :
    (execOp ρ ⟨dst, .build t parts, ty, pos, after, g⟩).run P w = .ok (.value v) w := by
  have hp' : parts.map (fun x => (x.1, ρ x.2)) = vals := by
    apply Array.ext'
    rw [Array.toList_map, hp]
  simp only [execOp, hp', Sem.run_bind, hr, Result.andThen_ok, Sem.run_pure]
theorem exec_buildSlice {ρ : Operand → Value} {dst : Option Tmp} {ty : TypeId} {pos : String} {after : Array Edge} {g : Option (Nat × Bool)} {t : TypeId} {n : Nat} {parts : Array (Nat × Operand)} {vals : Array (Nat × Value)} {w w' : World} {v : Value} (hp : parts.toList.map (fun x => (x.1, ρ x.2)) = vals.toList) (hr : (Instr.buildSlice t n vals).run P w = .ok v w') :
    (execOp ρ ⟨dst, .buildSlice t n parts, ty, pos, after, g⟩).run P w = .ok (.value v) w' := by
  have hp' : parts.map (fun x => (x.1, ρ x.2)) = vals := by
    apply Array.ext'
    rw [Array.toList_map, hp]
  simp only [execOp, hp', Sem.run_bind, hr, Result.andThen_ok, Sem.run_pure]

theorem lies_extract {w : World} {b o : Nat} {C cs : Array Value} {t : TypeId} {fr : Nat × Nat} (h : w.heap[b]? = some (.cells C t fr)) (he : C.extract o (o + cs.size) = cs) : Lies w b o cs := by
  intro j hj
  refine cell_of h ?_
  have : (C.extract o (o + cs.size))[j]? = cs[j]? := by rw [he]
  rw [Array.getElem?_extract, Array.getElem?_eq_getElem hj] at this
  split at this
  · exact this
  · cases this

/-! ### Loads -/
structure ScalarT (P : Program) (t : TypeId) : Prop where
  plain : ∃ d, P.underlying t = some d ∧ (match d with | .struct _ | .array _ _ => false | _ => true) = true

theorem exec_load1 {ρ : Operand → Value} {dst : Option Tmp} {ty : TypeId} {pos : String} {after : Array Edge} {g : Option (Nat × Bool)} {t : TypeId} {x : Operand} {w : World} {b o : Nat} {v : Value} (hT : ScalarT P t) (hx : ρ x = .pointer (some ⟨b, o, none⟩)) (hv : w.cell? ⟨b, o, none⟩ = some v) :
    (execOp ρ ⟨dst, .load t x, ty, pos, after, g⟩).run P w = .ok (.value v) w := by
  obtain ⟨d, hu, hd⟩ := hT.plain
  have hagg : (isAgg t).run P w = .ok false w := by cases d <;> simp at hd <;> simp [isAgg, underlying, hu]
  simp [execOp, hx, Instr.loadAt, Instr.sureAddr, loadVar, hagg, hv]

theorem exec_loadA {ρ : Operand → Value} {dst : Option Tmp} {ty : TypeId} {pos : String} {after : Array Edge} {g : Option (Nat × Bool)} {t : TypeId} {x : Operand} {w : World} {b o : Nat} {cs : Array Value} (hT : AggT P t cs.size) (hx : ρ x = .pointer (some ⟨b, o, none⟩)) (hL : Lies w b o cs) :
    (execOp ρ ⟨dst, .load t x, ty, pos, after, g⟩).run P w = .ok (.value (.agg cs)) w := by
  simp only [execOp, hx, Sem.run_bind, run_loadA hT hL, Result.andThen, Sem.run_pure]


theorem exec_buildSlice1 {ρ : Operand → Value} {dst : Option Tmp} {ty : TypeId} {pos : String} {after : Array Edge} {g : Option (Nat × Bool)} {t e : TypeId} {x : Operand} {w : World} {i : TypeInfo} {z v : Value} (ht : P.underlying t = some (.slice e)) (hi : P.info? e = some i) (hz : i.zero = some z) (hs : i.size = 1) (hzc : z.cells = #[z])
    (hx : ρ x = v) (hv : v.cells = #[v]) : (execOp ρ ⟨dst, .buildSlice t 1 #[(0, x)], ty, pos, after, g⟩).run P w = .ok (.value (.slice (some ⟨w.heap.size, 0, none⟩) 1 1)) (w.alloc (.cells #[v] e)) := by
  simp [execOp, Instr.buildSlice, underlying, ht, sizeOf, typeInfo, hi, hs, zeroValue, hz, hzc, Instr.fill, hx, hv, newRow, show Array.range 1 = #[0] from rfl]


theorem madeCells_one (z : Value) (n : Nat) : madeCells #[z] n = (List.replicate n z).toArray := by
  rw [← toList_madeCells_one]

theorem exec_make1 {ρ : Operand → Value} {dst : Option Tmp} {ty : TypeId} {pos : String} {after : Array Edge} {g : Option (Nat × Bool)} {t e : TypeId} {x y : Operand} {w : World} {i : TypeInfo} {z : Value} {n : Nat} (ht : P.underlying t = some (.slice e)) (hi : P.info? e = some i) (hz : i.zero = some z) (hs : i.size = 1) (hzc : z.cells = #[z])
    (hb : i.bytes * n ≤ 281474976710656) (hn : n ≤ maxLen) (hx : ρ x = .int .i64 n) (hy : ρ y = .int .i64 n) :
    (execOp ρ ⟨dst, .makeSlice t x y, ty, pos, after, g⟩).run P w = .ok (.value (.slice (some ⟨w.heap.size, 0, none⟩) n n)) (w.alloc (.cells (List.replicate n z).toArray e)) := by
  have h63 : (n : Int) ≤ 9223372036854775807 := by simp [maxLen] at hn; omega
  have hb' : (i.bytes : Int) * (n : Int) ≤ 281474976710656 := by
    have h : ((i.bytes * n : Nat) : Int) ≤ 281474976710656 := by omega
    rwa [Int.natCast_mul] at h
  have hr := run_make (P := P) w t e i z ht hi hz .i64 .i64 n n (by omega) (Int.le_refl _) hb' h63
  simp only [Int.toNat_natCast, hs, Nat.mul_one, hzc, madeCells_one] at hr
  simp only [execOp, hx, hy, Sem.run_bind, hr, Result.andThen_ok, Sem.run_pure]

end
end Go.Tn

/- Numbers bit by bit, the highest first: no program. -/
namespace Go.Tn.Bits

/-- A number of m bits, the first one the highest. -/
def num (f : Nat → Bool) : Nat → Nat
  | 0 => 0
  | m + 1 => num f m * 2 + (f m).toNat
/-- How many of the first m hold. -/
def cnt (f : Nat → Bool) : Nat → Nat
  | 0 => 0
  | m + 1 => cnt f m + (f m).toNat
/-- The first below m that holds, or m. -/
def fst (f : Nat → Bool) : Nat → Nat
  | 0 => 0
  | m + 1 => if fst f m < m then fst f m else if f m then m else m + 1

theorem num_congr {f g : Nat → Bool} : ∀ {m : Nat}, (∀ j, j < m → f j = g j) → num f m = num g m
  | 0, _ => rfl
  | m + 1, h => by simp only [num]; rw [num_congr (fun j hj => h j (by omega)), h m (by omega)]
theorem cnt_congr {f g : Nat → Bool} : ∀ {m : Nat}, (∀ j, j < m → f j = g j) → cnt f m = cnt g m
  | 0, _ => rfl
  | m + 1, h => by simp only [cnt]; rw [cnt_congr (fun j hj => h j (by omega)), h m (by omega)]
theorem toNat_le (b : Bool) : b.toNat ≤ 1 := by cases b <;> decide
theorem cnt_le (f : Nat → Bool) : ∀ m, cnt f m ≤ m
  | 0 => Nat.le_refl _
  | m + 1 => by have := cnt_le f m; have := toNat_le (f m); simp only [cnt]; omega
theorem cnt_add (f : Nat → Bool) (a : Nat) : ∀ b, cnt f (a + b) = cnt f a + cnt (fun j => f (a + j)) b
  | 0 => rfl
  | b + 1 => by
    show cnt f (a + b) + (f (a + b)).toNat = _
    rw [cnt_add f a b]; simp only [cnt]; omega
theorem num_lt (f : Nat → Bool) : ∀ m, num f m < 2 ^ m
  | 0 => by simp [num]
  | m + 1 => by have := num_lt f m; have := toNat_le (f m); simp only [num, Nat.pow_succ]; omega
theorem num_add (f : Nat → Bool) (a : Nat) : ∀ b, num f (a + b) = num f a * 2 ^ b + num (fun j => f (a + j)) b
  | 0 => by simp [num]
  | b + 1 => by
    show num f (a + b) * 2 + (f (a + b)).toNat = _
    rw [num_add f a b]
    simp only [num, Nat.pow_succ]
    rw [Nat.add_mul, Nat.mul_assoc]
    omega
theorem num_le_one (f : Nat → Bool) (h : ∀ j, f j = false) : ∀ m, num f m = 0
  | 0 => rfl
  | m + 1 => by simp [num, num_le_one f h m, h m]
theorem cnt_zero (f : Nat → Bool) (h : ∀ j, f j = false) : ∀ m, cnt f m = 0
  | 0 => rfl
  | m + 1 => by simp [cnt, cnt_zero f h m, h m]

theorem testBit_num (f : Nat → Bool) : ∀ (m j : Nat), (num f m).testBit j = (decide (j < m) && f (m - 1 - j))
  | 0, j => by simp [num]
  | m + 1, j => by
    have ht : (f m).toNat < 2 := by have := toNat_le (f m); omega
    cases j with
    | zero =>
      simp only [num, Nat.testBit_zero]
      have : (num f m * 2 + (f m).toNat) % 2 = (f m).toNat := by omega
      rw [this]
      cases h : f m <;> simp [h]
    | succ j =>
      simp only [num]
      rw [Nat.testBit_succ, show (num f m * 2 + (f m).toNat) / 2 = num f m by omega, testBit_num f m j]
      have e : m + 1 - 1 - (j + 1) = m - 1 - j := by omega
      rw [e]
      simp

def setB (f : Nat → Bool) (i : Nat) (b : Bool) : Nat → Bool := fun j => if j = i then b else f j
theorem setB_same (f : Nat → Bool) (i : Nat) (b : Bool) : setB f i b i = b := by simp [setB]
theorem setB_ne (f : Nat → Bool) {i j : Nat} (b : Bool) (h : j ≠ i) : setB f i b j = f j := by simp [setB, h]
theorem setB_self (f : Nat → Bool) (i : Nat) : setB f i (f i) = f := by funext j; unfold setB; split <;> simp_all
theorem cnt_set (f : Nat → Bool) {i : Nat} (b : Bool) : ∀ {m : Nat}, i < m → cnt (setB f i b) m + (f i).toNat = cnt f m + b.toNat
  | m + 1, h => by
    simp only [cnt]
    by_cases hi : i = m
    · subst hi
      rw [setB_same, cnt_congr (g := f) (fun j hj => setB_ne f b (by omega))]
      omega
    · have := cnt_set f b (show i < m by omega)
      rw [setB_ne f b (by omega)]
      omega
theorem cnt_set_out (f : Nat → Bool) {i : Nat} (b : Bool) {m : Nat} (h : m ≤ i) : cnt (setB f i b) m = cnt f m := cnt_congr fun j hj => setB_ne f b (by omega)

theorem num_or (f : Nat → Bool) {m i : Nat} (h : i < m) : num f m ||| 2 ^ (m - 1 - i) = num (setB f i true) m := by
  apply Nat.eq_of_testBit_eq
  intro j
  rw [Nat.testBit_or, testBit_num, testBit_num, Nat.testBit_two_pow]
  by_cases hj : j < m
  · by_cases he : m - 1 - i = j
    · have : m - 1 - j = i := by omega
      simp [hj, he, this, setB]
    · have : m - 1 - j ≠ i := by omega
      simp [hj, he, setB, this]
  · have : m - 1 - i ≠ j := by omega
    simp [hj, this]
theorem num_xor (f : Nat → Bool) {m i : Nat} (h : i < m) : num f m ^^^ 2 ^ (m - 1 - i) = num (setB f i (!f i)) m := by
  apply Nat.eq_of_testBit_eq
  intro j
  rw [Nat.testBit_xor, testBit_num, testBit_num, Nat.testBit_two_pow]
  by_cases hj : j < m
  · by_cases he : m - 1 - i = j
    · have : m - 1 - j = i := by omega
      simp [hj, he, this, setB]
    · have : m - 1 - j ≠ i := by omega
      simp [hj, he, setB, this]
  · have : m - 1 - i ≠ j := by omega
    simp [hj, this]
theorem num_and (f : Nat → Bool) {m i : Nat} (h : i < m) : num f m &&& 2 ^ (m - 1 - i) = if f i then 2 ^ (m - 1 - i) else 0 := by
  apply Nat.eq_of_testBit_eq
  intro j
  rw [Nat.testBit_and, testBit_num, Nat.testBit_two_pow]
  by_cases he : m - 1 - i = j
  · have h1 : m - 1 - j = i := by omega
    have h2 : j < m := by omega
    cases hf : f i <;> simp [h1, h2, he, hf, Nat.testBit_two_pow]
  · cases hf : f i <;> simp [he, hf, Nat.testBit_two_pow]
theorem num_not (f : Nat → Bool) : ∀ m, num (fun j => !f j) m + num f m + 1 = 2 ^ m
  | 0 => rfl
  | m + 1 => by
    have := num_not f m
    have h : (!f m).toNat + (f m).toNat = 1 := by cases f m <;> rfl
    simp only [num, Nat.pow_succ]; omega

theorem fst_le (f : Nat → Bool) : ∀ m, fst f m ≤ m
  | 0 => Nat.le_refl _
  | m + 1 => by have := fst_le f m; simp only [fst]; split <;> (try split) <;> omega
theorem fst_none {f : Nat → Bool} : ∀ {m j : Nat}, j < fst f m → f j = false
  | 0, j, h => by simp [fst] at h
  | m + 1, j, h => by
    simp only [fst] at h
    by_cases h1 : fst f m < m
    · rw [if_pos h1] at h; exact fst_none h
    · rw [if_neg h1] at h
      have hm : fst f m = m := by have := fst_le f m; omega
      by_cases h2 : f m
      · rw [if_pos h2] at h; exact fst_none (m := m) (by omega)
      · rw [if_neg h2] at h
        by_cases hj : j < m
        · exact fst_none (m := m) (by omega)
        · obtain rfl : j = m := by omega
          simpa using h2
theorem fst_some {f : Nat → Bool} : ∀ {m : Nat}, fst f m < m → f (fst f m) = true
  | m + 1, h => by
    simp only [fst] at h ⊢
    by_cases h1 : fst f m < m
    · simp only [if_pos h1]; exact fst_some h1
    · simp only [if_neg h1] at h ⊢
      by_cases h2 : f m
      · simp only [if_pos h2]; exact h2
      · rw [if_neg h2] at h; omega

theorem bitLenAux_num (f : Nat → Bool) : ∀ (m fu : Nat), m ≤ fu → Go.Lib.bitLenAux fu (num f m) = m - fst f m
  | 0, fu, _ => by cases fu <;> simp [Go.Lib.bitLenAux, num, fst]
  | m + 1, 0, h => by omega
  | m + 1, fu + 1, h => by
    have ih := bitLenAux_num f m fu (by omega)
    have hle := fst_le f m
    have ht := toNat_le (f m)
    have e : num f (m + 1) = num f m * 2 + (f m).toNat := rfl
    have e2 : num f (m + 1) / 2 = num f m := by omega
    have hg : fst f (m + 1) = if fst f m < m then fst f m else if f m then m else m + 1 := rfl
    show (if num f (m + 1) = 0 then 0 else 1 + Go.Lib.bitLenAux fu (num f (m + 1) / 2)) = _
    rw [e2, ih, hg]
    by_cases h1 : fst f m < m
    · have hne : num f m ≠ 0 := by
        intro h0
        have := testBit_num f m (m - 1 - fst f m)
        rw [h0, show m - 1 - (m - 1 - fst f m) = fst f m by omega, fst_some h1] at this
        have h2 : m - 1 - fst f m < m := by omega
        simp [h2] at this
      rw [if_neg (by omega), if_pos h1]
      omega
    · have hz : num f m = 0 := by
        have : num f m = num (fun _ => false) m := num_congr fun j hj => fst_none (m := m) (by omega)
        rw [this]; exact num_le_one _ (fun _ => rfl) m
      rw [if_neg h1]
      cases hf : f m
      · rw [if_pos (by rw [e, hz, hf]; rfl)]; simp
      · rw [if_neg (by rw [e, hz, hf]; decide)]; simp; omega
theorem bitLen_num (f : Nat → Bool) {m : Nat} (h : m ≤ 64) : Go.Lib.bitLen (num f m) = m - fst f m := bitLenAux_num f m 64 h

/-- Every number is some bits. -/
theorem num_of {x m : Nat} (h : x < 2 ^ m) : x = num (fun j => x.testBit (m - 1 - j)) m := by
  apply Nat.eq_of_testBit_eq
  intro j
  rw [testBit_num]
  by_cases hj : j < m
  · have : m - 1 - (m - 1 - j) = j := by omega
    simp [hj, this]
  · simp only [hj, decide_false, Bool.false_and]
    exact Nat.testBit_lt_two_pow (Nat.lt_of_lt_of_le h (Nat.pow_le_pow_right (by omega) (by omega)))
end Go.Tn.Bits
