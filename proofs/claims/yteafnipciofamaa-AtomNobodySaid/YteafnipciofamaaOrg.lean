/- A region that draws its order, walked once in an order of ours: with guarded operations. No program. -/
import Derived.Test.YteafnipciofamaaOrd
namespace Go.Tn
open Go.RowKit

section
variable {P : Program} {ops : Array Oper} {Q : Exit → Act → World → Prop} {S : World → Prop}

def stepsG (ops : Array Oper) : List (Nat × Nat) → Array Bool → Bool
  | [], listed => (Region.ready .any ops listed).isEmpty
  | (i, t) :: r, listed =>
    (match ops[i]? with
      | some _ => decide (i < listed.size) &&
        (if t = 0 ∨ t = 1 then Region.free .any ops listed i && (Region.ready .any ops listed).contains i else decide (Region.ready .any ops listed = [i]))
      | none => false) && stepsG ops r (listed.setIfInBounds i true)

def orderG (ops : Array Oper) (ord : List (Nat × Nat)) : Bool :=
  Region.noSelect ops && decide (ord.length = ops.size) && gatesB ops ord && stepsG ops ord (Array.replicate ops.size false) && decide (ord.map (·.1)).Nodup && ord.all fun x => decide (x.2 ≤ 3)

/-- The walk in that order; a guarded operation may be wanted or not. -/
def wpG (P : Program) (ops : Array Oper) (Q : Exit → Act → World → Prop) (S : World → Prop) : List (Nat × Nat) → Act → World → Prop
  | [], a, w => Q .normal a w
  | (i, t) :: r, a, w => ∃ o, ops[i]? = some o ∧
    ((Region.wanted o (yielded ops a.tmps) = false ∧ (t = 2 → S w) ∧ wpG P ops Q S r (a.put o.dst undef) w) ∨
     (Region.wanted o (yielded ops a.tmps) = true ∧
      match t with
      | 0 => S w ∧ ∃ v, (∀ w, S w → (execOp a.eval o).run P w = .ok (.value v) w) ∧ wpG P ops Q S r (a.put o.dst v) w
      | 1 => ∃ v, (∀ w, (execOp a.eval o).run P w = .ok (.value v) w) ∧ wpG P ops Q S r (a.put o.dst v) w
      | 2 => o.wp P a w (fun a' w' => S w' ∧ wpG P ops Q S r a' w') Q
      | _ => o.wp P a w (wpG P ops Q S r) Q ∨ (o.asks P a w ∧ LetsOut Q)))

/-- The kind that a tag has. -/
def kd : Nat → Nat
  | 0 => 0
  | 1 => 0
  | 2 => 1
  | _ => 2
theorem kd_three {t : Nat} (ht : ¬ (t = 0 ∨ t = 1)) : ¬ kd t = 0 ∧ (kd t = 1 → t = 2) := by
  rcases t with _ | _ | _ | t
  · exact absurd (.inl rfl) ht
  · exact absurd (.inr rfl) ht
  · exact ⟨by decide, fun _ => rfl⟩
  · exact ⟨(fun (h : 2 = 0) => absurd h (by decide)), (fun (h : 2 = 1) => absurd h (by decide))⟩

theorem anyX_of_wpG {full : List (Nat × Nat)} (hsel : Region.noSelect ops = true) (hQ : ∀ d v c a w, Q (.panic c) (Act.put a d v) w → Q (.panic c) a w) (hnd : (full.map (·.1)).Nodup) (hg : gatesB ops full = true) (h3 : ∀ x ∈ full, x.2 ≤ 3) :
    ∀ (ord : List (Nat × Nat)) (listed : Array Bool) (a : Act) (w : World), (∀ x ∈ ord, x ∈ full) → Cl ops listed → stepsG ops ord listed = true → wpG P ops Q S ord a w → anyX P ops Q S (kindOf full) ord.length listed a w
  | [], listed, a, w, _, _, hB, h => ⟨by simpa [stepsG] using hB, h⟩
  | (i, t) :: r, listed, a, w, hsub, hcl, hB, h => by
    simp only [stepsG, Bool.and_eq_true] at hB
    obtain ⟨h1, h2⟩ := hB
    obtain ⟨o, ho, h⟩ := h
    simp only [ho, Bool.and_eq_true, decide_eq_true_eq] at h1
    obtain ⟨hlt, h1⟩ := h1
    have hmem : (i, t) ∈ full := hsub _ (by simp)
    have hsub' : ∀ x ∈ r, x ∈ full := fun x hx => hsub x (by simp [hx])
    have hk : kindOf full i = kd t := by
      unfold kindOf
      rw [kindOf_mem hnd hmem]
      match t with
      | 0 => rfl
      | 1 => rfl
      | 2 => rfl
      | t + 3 => rfl
    rcases h with ⟨hw, hS2, hn⟩ | ⟨hw, h⟩
    · by_cases ht : t = 0 ∨ t = 1
      · have hk0 : kindOf full i = 0 := by rcases ht with rfl | rfl <;> exact hk
        rw [if_pos ht] at h1
        simp only [Bool.and_eq_true] at h1
        have hr : i ∈ Region.ready .any ops listed := by simpa using h1.2
        exact anyX_take ho hk0 (Region.noSelect_spec hsel) hQ r.length listed a w (Region.free_spec ho h1.1) hr (.inr ⟨hw, rfl⟩) (anyX_of_wpG hsel hQ hnd hg h3 r _ _ _ hsub' (hcl.set hr) h2 hn)
      · rw [if_neg ht] at h1
        have hr : Region.ready .any ops listed = [i] := by simpa using h1
        refine ⟨fun h0 => absurd (hr ▸ h0) (by simp), fun j hj => ?_⟩
        obtain rfl : j = i := by rw [hr] at hj; simpa using hj
        unfold wpOp
        simp only [ho, hw]
        have hn' := anyX_of_wpG hsel hQ hnd hg h3 r _ _ _ hsub' (hcl.set hj) h2 hn
        refine ⟨⟨fun _ => rfl, fun h0 => ?_⟩, hn'⟩
        rw [hk] at h0
        exact hS2 ((kd_three ht).2 h0)
    · rcases t with _ | _ | _ | t
      · obtain ⟨hS, v, hv, hn⟩ := h
        simp only [true_or, if_true, Bool.and_eq_true] at h1
        have hr : i ∈ Region.ready .any ops listed := by simpa using h1.2
        exact anyX_read ho hk (kindOf_three full) (Region.noSelect_spec hsel) hQ (fun listed' hun hcl' => gates_spec hnd hg hmem h3 listed' (getD_both hun) hcl'.closed) r.length listed a w hcl (Region.free_spec ho h1.1) hr
          (.inl ⟨hw, hv⟩) hS (anyX_of_wpG hsel hQ hnd hg h3 r _ _ _ hsub' (hcl.set hr) h2 hn)
      · obtain ⟨v, hv, hn⟩ := h
        simp only [Nat.zero_add, or_true, if_true, Bool.and_eq_true] at h1
        have hr : i ∈ Region.ready .any ops listed := by simpa using h1.2
        exact anyX_take ho hk (Region.noSelect_spec hsel) hQ r.length listed a w (Region.free_spec ho h1.1) hr (.inl ⟨hw, hv⟩) (anyX_of_wpG hsel hQ hnd hg h3 r _ _ _ hsub' (hcl.set hr) h2 hn)
      · have hr : Region.ready .any ops listed = [i] := by simpa using h1
        refine ⟨fun h0 => absurd (hr ▸ h0) (by simp), fun j hj => ?_⟩
        obtain rfl : j = i := by rw [hr] at hj; simpa using hj
        unfold wpOp
        simp only [ho, hw, if_true]
        refine .inl (Oper.wp_mono (fun a' w' h' => ⟨⟨fun h0 => ?_, fun _ => h'.1⟩, anyX_of_wpG hsel hQ hnd hg h3 r _ a' w' hsub' (hcl.set hj) h2 h'.2⟩) h)
        rw [hk] at h0; cases h0
      · have hr : Region.ready .any ops listed = [i] := by simpa using h1
        refine ⟨fun h0 => absurd (hr ▸ h0) (by simp), fun j hj => ?_⟩
        obtain rfl : j = i := by rw [hr] at hj; simpa using hj
        unfold wpOp
        simp only [ho, hw, if_true]
        refine h.imp (Oper.wp_mono (fun a' w' h' => ⟨⟨fun h0 => ?_, fun h0 => ?_⟩, anyX_of_wpG hsel hQ hnd hg h3 r _ a' w' hsub' (hcl.set hj) h2 h'⟩)) id
        · rw [hk] at h0; cases h0
        · rw [hk] at h0; cases h0

/-- A region that draws its order, walked once in an order of ours. -/
theorem wp_region_g {id : Nat} {ops : Array Oper} {a : Act} {w : World} (S : World → Prop) (ord : List (Nat × Nat)) (hm : P.follows .mixedOrders = true) (hB : orderG ops ord = true)
    (hQ : ∀ d v c a w, Q (.panic c) (Act.put a d v) w → Q (.panic c) a w) (h : wpG P ops Q S ord a w.drew) : (Code.region id ops true).wp P Q a w := by
  simp only [orderG, Bool.and_eq_true, decide_eq_true_eq, List.all_eq_true] at hB
  obtain ⟨⟨⟨⟨⟨hsel, hlen⟩, hg⟩, hs⟩, hnd⟩, h3⟩ := hB
  refine wp_region_any hm (wpAny_of_anyX (S := S) (k := kindOf ord) _ _ _ _ ?_)
  have := anyX_of_wpG hsel hQ hnd hg h3 ord (Array.replicate ops.size false) a w.drew (fun _ h => h) ⟨by simp, fun j oj _ hl => (by rw [getD_replicate_false] at hl; cases hl)⟩ hs h
  rw [hlen] at this
  exact this

/-! ### Steps -/
theorem g_nil {a : Act} {w : World} (h : Q .normal a w) : wpG P ops Q S [] a w := h
theorem g_off {i t : Nat} {r : List (Nat × Nat)} {a : Act} {w : World} {o : Oper} (ho : ops[i]? = some o) (hw : Region.wanted o (yielded ops a.tmps) = false) (hS : t = 2 → S w) (h : wpG P ops Q S r (a.put o.dst undef) w) : wpG P ops Q S ((i, t) :: r) a w :=
  ⟨o, ho, .inl ⟨hw, hS, h⟩⟩
theorem g_read {i : Nat} {r : List (Nat × Nat)} {a : Act} {w : World} {o : Oper} (ho : ops[i]? = some o) (hw : Region.wanted o (yielded ops a.tmps) = true) (hS : S w) {v : Value} (hv : ∀ w, S w → (execOp a.eval o).run P w = .ok (.value v) w) (h : wpG P ops Q S r (a.put o.dst v) w) : wpG P ops Q S ((i, 0) :: r) a w :=
  ⟨o, ho, .inr ⟨hw, hS, v, hv, h⟩⟩
theorem g_take {i : Nat} {r : List (Nat × Nat)} {a : Act} {w : World} {o : Oper} (ho : ops[i]? = some o) (hw : Region.wanted o (yielded ops a.tmps) = true) (h : ∀ K : Act → Prop, (∀ a, wpG P ops Q S r a w → K a) → ∃ v, (∀ w, (execOp a.eval o).run P w = .ok (.value v) w) ∧ K (a.put o.dst v)) : wpG P ops Q S ((i, 1) :: r) a w := by
  obtain ⟨v, hv, hn⟩ := h _ (fun _ h => h)
  exact ⟨o, ho, .inr ⟨hw, v, hv, hn⟩⟩
theorem g_show' {i : Nat} {r : List (Nat × Nat)} {a : Act} {w : World} {o : Oper} (ho : ops[i]? = some o) (hw : Region.wanted o (yielded ops a.tmps) = true) (h : ∀ K : Act → World → Prop, (∀ a w, S w → wpG P ops Q S r a w → K a w) → o.wp P a w K Q) : wpG P ops Q S ((i, 2) :: r) a w :=
  ⟨o, ho, .inr ⟨hw, h _ (fun _ _ h1 h2 => ⟨h1, h2⟩)⟩⟩
theorem g_exec' {i : Nat} {r : List (Nat × Nat)} {a : Act} {w : World} {o : Oper} (ho : ops[i]? = some o) (hw : Region.wanted o (yielded ops a.tmps) = true) (h : ∀ K : Act → World → Prop, (∀ a w, wpG P ops Q S r a w → K a w) → o.wp P a w K Q) : wpG P ops Q S ((i, 3) :: r) a w :=
  ⟨o, ho, .inr ⟨hw, .inl (h _ (fun _ _ h => h))⟩⟩
end
end Go.Tn
