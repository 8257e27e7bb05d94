/- Laws at the level of one operation, for the walk. No program. -/
import Derived.Test.YtipbaajdnnddgaaGreatMgVlj2
import Derived.Maps.AppendAt
/- Laws at the level of one operation, for the walk. No program. -/
namespace Go.Tn
open Go.RowKit

section
variable {P : Program} {ops : Array Oper} {rest : List Oper} {a : Act} {w : World}

/-! ### A region that draws: a head that only reads; then a tail in an order of ours: each operation is a copy or a component, or the only one that may come -/
def pureB (o : Oper) : Bool := o.guard.isNone && (match o.op with | .move _ | .extract _ _ => true | _ => false)

theorem pure_run {o : Oper} (h : pureB o = true) (a : Act) (w : World) : (∃ v, ∀ w, (execOp a.eval o).run P w = .ok (.value v) w) ∨ ∃ x, (execOp a.eval o).run P w = .halt (.stuck x) w := by
  obtain ⟨dst, op, ty, pos, after, guard⟩ := o
  cases op <;> simp [pureB] at h
  case move x => exact .inl ⟨a.eval x, fun w => rfl⟩
  case extract t ix =>
    simp only [execOp, Instr.extract]
    cases a.eval t <;> try exact .inr ⟨_, rfl⟩
    rename_i vs
    cases hv : vs[ix]? with
    | none => right; exact ⟨_, by simp [hv]; rfl⟩
    | some v => left; exact ⟨v, fun w => by simp [hv]⟩

theorem no_mem_empty (h : noRoomEvent ∈ (#[] : Array Event)) : False := by simp at h

theorem pure_asks {o : Oper} (h : pureB o = true) (a : Act) (w : World) : ¬ o.asks P a w := by
  obtain ⟨dst, op, ty, pos, after, guard⟩ := o
  cases op <;> simp [pureB] at h
  case move x => intro hh; exact no_mem_empty hh.1
  case extract t ix =>
    intro hh
    have h1 := hh.1
    simp only [execOp, Instr.extract] at h1
    cases hv : a.eval t <;> simp only [hv] at h1 <;> try exact no_mem_empty h1
    rename_i vs
    cases hw : vs[ix]? <;> simp only [hw] at h1 <;> exact no_mem_empty h1

def orderOK (md : Region.Mode) (ops : Array Oper) : List Nat → Array Bool → Bool
  | [], listed => (Region.ready md ops listed).isEmpty
  | i :: r, listed =>
    (match ops[i]? with
      | some o => if pureB o then Region.free md ops listed i && (Region.ready md ops listed).contains i else decide (Region.ready md ops listed = [i])
      | none => false) && orderOK md ops r (listed.setIfInBounds i true)

theorem wpAny_of_order {md : Region.Mode} {Q : Exit → Act → World → Prop} (hs : Region.noSelect ops = true) (hQ : ∀ d v c a w, Q (.panic c) (Act.put a d v) w → Q (.panic c) a w) :
    ∀ (ord : List Nat) (listed : Array Bool) (a : Act) (w : World), orderOK md ops ord listed = true → wpList P ops Q (ord.filterMap (ops[·]?)) a w → wpAny P md ops Q ord.length listed a w
  | [], listed, a, w, hB, h => ⟨by simpa [orderOK] using hB, h⟩
  | i :: r, listed, a, w, hB, h => by
    simp only [orderOK, Bool.and_eq_true] at hB
    obtain ⟨h1, h2⟩ := hB
    cases ho : ops[i]? with
    | none => simp [ho] at h1
    | some o =>
      simp only [ho] at h1
      simp only [List.filterMap_cons, ho] at h
      by_cases hp : pureB o = true
      · simp only [hp, if_true, Bool.and_eq_true] at h1
        have hg : o.guard = none := by unfold pureB at hp; simp at hp; exact hp.1
        have hw : Region.wanted o (yielded ops a.tmps) = true := by simp [Region.wanted, hg]
        simp only [wpList, hw, if_true] at h
        rcases h with h | h
        · rcases pure_run (P := P) hp a w with ⟨v, hv⟩ | ⟨x, hx⟩
          · simp only [Oper.wp, hv w, Oper.upon] at h
            exact wpAny_take ho hs h1.1 h1.2 (fun c a w => hQ _ _ c a w) (.inl ⟨hw, hv⟩) (wpAny_of_order hs hQ r _ _ _ h2 h)
          · simp only [Oper.wp, hx, Oper.upon] at h
        · exact absurd h.1 (pure_asks hp a w)
      · have hp' : pureB o = false := by simpa using hp
        simp only [hp', Bool.false_eq_true, if_false, decide_eq_true_eq] at h1
        refine wpAny_all h1 (by simp) (fun j hj => ?_)
        obtain rfl : j = i := by simpa using hj
        unfold wpOp
        simp only [ho]
        simp only [wpList] at h
        split
        · rename_i hw
          simp only [hw, if_true] at h
          exact h.imp (fun h => Oper.wp_mono (fun a' w' h' => wpAny_of_order hs hQ r _ a' w' h2 h') h) id
        · rename_i hw
          simp only [hw] at h
          exact wpAny_of_order hs hQ r _ _ _ h2 h

/-- Operation n waits for each one of the head, and every later one waits for n. -/
def gateB (ops : Array Oper) (n : Nat) : Bool :=
  (List.range n).all (fun i => Region.waitsFor .any ops n i) && (List.range ops.size).all fun t => decide (t ≤ n) || Region.waitsFor .any ops t n

theorem not_ready {md : Region.Mode} {listed : Array Bool} {t i : Nat} (hw : Region.waitsFor md ops t i = true) (hi : listed.getD i false = false) : t ∉ Region.ready md ops listed := by
  intro hr
  obtain ⟨_, ot, hot, hall⟩ := mem_ready.1 hr
  obtain ⟨oj, hoj, e, he, hb, hon⟩ := Region.waitsFor_spec hw
  rw [hot] at hoj
  cases hoj
  have := hall e he hb
  rw [hon, hi] at this
  cases this

theorem gate {n : Nat} {listed : Array Bool} (hg : gateB ops n = true) (inv : HeadInv .any ops n listed) {i : Nat} (hi : i < n) (hn : n < ops.size) (hun : listed.getD i true = false) {t : Nat} (ht : n ≤ t) : t ∉ Region.ready .any ops listed := by
  intro hr
  have htlt : t < ops.size := by obtain ⟨_, ot, hot, _⟩ := mem_ready.1 hr; exact (Array.getElem?_eq_some_iff.1 hot).1
  simp only [gateB, Bool.and_eq_true] at hg
  rcases Nat.eq_or_lt_of_le ht with rfl | hlt
  · exact not_ready (List.all_eq_true.1 hg.1 i (List.mem_range.2 hi)) (getD_both hun) hr
  · have h1 := List.all_eq_true.1 hg.2 t (List.mem_range.2 htlt)
    simp only [Bool.or_eq_true, decide_eq_true_eq] at h1
    rcases h1 with h1 | h1
    · omega
    · exact not_ready h1 (getD_both (inv.tail n (Nat.le_refl _) hn)) hr

theorem head_first {n i : Nat} {oi : Oper} {v : Value} {L : Array Bool → Act → Prop} (hi : ops[i]? = some oi) (hsel : ∀ (j : Nat) (o : Oper) cs b, ops[j]? = some o → o.op ≠ .select cs b)
    (hg : gateB ops n = true) (hn : n < ops.size) (hin : i < n) (hdone : ∀ listed a, L listed a → ∀ j ∈ Region.ready .any ops listed, n ≤ j) :
    ∀ (f : Nat) (listed : Array Bool) (a : Act), HeadInv .any ops n listed →
      (∀ j oj, ops[j]? = some oj → j ≠ i → listed.getD j true = false → (∀ e ∈ oj.after, Region.binds .any e = true → e.on ≠ i) → oi.apart ops oj = true) →
      i ∈ Region.ready .any ops listed → YieldsAt P ops w oi v a →
      wpAnyL P .any ops w n L f (listed.setIfInBounds i true) (a.put oi.dst v) → wpAnyL P .any ops w n L (f + 1) listed a := by
  intro f
  induction f with
  | zero =>
    intro listed a inv _ hr hy H
    have hun := (mem_ready.1 hr).1
    refine ⟨fun h => (by rw [h] at hr; cases hr), fun j hj => ?_⟩
    have hjn : j < n := Nat.lt_of_not_le fun h => gate hg inv hin hn hun h hj
    refine ⟨hjn, ?_⟩
    by_cases hji : j = i
    · subst hji; exact hy.stOp hi H
    · exact absurd (hdone _ _ H j (ready_mono hj hji)) (by omega)
  | succ f ih =>
    intro listed a inv hfree hr hy H
    have hun := (mem_ready.1 hr).1
    refine ⟨fun h => (by rw [h] at hr; cases hr), fun j hj => ?_⟩
    have hjn : j < n := Nat.lt_of_not_le fun h => gate hg inv hin hn hun h hj
    refine ⟨hjn, ?_⟩
    by_cases hji : j = i
    · subst hji; exact hy.stOp hi H
    · have h1 := (H.2 j (ready_mono hj hji)).2
      obtain ⟨hjun, oj, hoj, hall⟩ := mem_ready.1 hj
      have hnot : ∀ e ∈ oj.after, Region.binds .any e = true → e.on ≠ i := fun e he hb heq => by
        have h1 := hall e he hb
        rw [heq, getD_both hun] at h1
        cases h1
      have h2 := stOp_put hoj (hfree j oj hoj hji hjun hnot) (fun cs b => hsel i oi cs b hi) (fun cs b => hsel j oj cs b hoj) hy h1
      refine stOp_mono (fun a' h3 => ih (listed.setIfInBounds j true) a' (inv.set hj hjn) (fun k ok hk hki hunk hno => hfree k ok hk hki ?_ hno) (ready_mono hr (Ne.symm hji)) h3.1 ?_) h2
      · by_cases hjk : j = k
        · subst hjk; exact hjun
        · rw [getD_set_ne true hjk] at hunk; exact hunk
      · rw [Array.setIfInBounds_comm _ _ hji]
        exact h3.2

def headB (ops : Array Oper) (ord : List Nat) : Nat → Nat → Array Bool → Bool
  | 0, _, listed => orderOK .any ops ord listed
  | f + 1, k, listed => (Region.ready .any ops listed).contains k && Region.free .any ops listed k && headB ops ord f (k + 1) (listed.setIfInBounds k true)

theorem orderOK_ready {n : Nat} {ord : List Nat} {listed : Array Bool} (ho : ord.all (fun i => decide (n ≤ i)) = true) (hfull : orderOK .any ops ord listed = true) (hh : ∀ i, i < n → listed.getD i true = true) : ∀ j ∈ Region.ready .any ops listed, n ≤ j := by
  intro j hj
  apply Nat.le_of_not_lt
  intro hlt
  have := (mem_ready.1 hj).1
  rw [hh j hlt] at this
  cases this

theorem head_lex {n : Nat} {ord : List Nat} {Lq : Act → Prop} (hsel : Region.noSelect ops = true) (hg : gateB ops n = true) (hn : n < ops.size) :
    ∀ (l : List Oper) (k : Nat) (listed : Array Bool) (a : Act), (∀ j, j < l.length → l[j]? = ops[k + j]?) → k + l.length = n → HeadInv .any ops n listed → (∀ i, i < k → listed.getD i true = true) →
    headB ops ord l.length k listed = true → wpStill P ops w Lq l a →
    wpAnyL P .any ops w n (fun listed' a' => (orderOK .any ops ord listed' = true ∧ ∀ i, i < n → listed'.getD i true = true) ∧ Lq a') l.length listed a
  | [], k, listed, a, _, hk, _, hlk, hB, h => by
    have : k = n := by simpa using hk
    subst this
    exact ⟨⟨by simpa [headB] using hB, hlk⟩, h⟩
  | o :: l, k, listed, a, hl, hk, inv, hlk, hB, h => by
    have h0 : ops[k]? = some o := by simpa using (hl 0 (by simp)).symm
    simp only [List.length_cons, headB, Bool.and_eq_true] at hB
    obtain ⟨⟨hr, hf⟩, hB'⟩ := hB
    have hkn : k < n := by simp only [List.length_cons] at hk; omega
    have hr' : k ∈ Region.ready .any ops listed := by simpa using hr
    have hst : stOp P ops w k (wpStill P ops w Lq l) a := by unfold stOp; simp only [h0]; exact h
    obtain ⟨v, hy, hK⟩ := yieldsAt_of_stOp h0 hst
    refine head_first h0 (Region.noSelect_spec hsel) hg hn hkn (fun listed' a' hL j hj => ?_) l.length listed a inv (Region.free_spec h0 hf) hr' hy
      (head_lex hsel hg hn l (k + 1) _ _ (fun j hj => by have := hl (j + 1) (by simp; omega); simpa [Nat.add_assoc, Nat.add_comm 1 j] using this) (by simp only [List.length_cons] at hk; omega) (inv.set hr' hkn) (fun i hi => ?_) hB' hK)
    · apply Nat.le_of_not_lt
      intro hlt
      have := (mem_ready.1 hj).1
      rw [hL.1.2 j hlt] at this
      cases this
    · by_cases hki : k = i
      · subst hki
        have hsz : k < listed.size := by rw [inv.size]; omega
        simp [hsz]
      · rw [getD_set_ne true hki]
        exact hlk i (by omega)

def tailB (ops : Array Oper) (n : Nat) (ord : List Nat) : Bool :=
  Region.noSelect ops && decide (n < ops.size) && decide (ord.length + n = ops.size) && gateB ops n && headB ops ord n 0 (Array.replicate ops.size false)

/-- A region that draws: its first n operations only read; behind them, each of which operation n waits for, the rest in the order 'ord'. -/
theorem wp_region_order {id : Nat} {Q : Exit → Act → World → Prop} {l : List Oper} (n : Nat) (ord : List Nat) (hm : P.follows .mixedOrders = true) (hB : tailB l.toArray n ord = true)
    (hQ : ∀ d v c a w, Q (.panic c) (Act.put a d v) w → Q (.panic c) a w)
    (h : wpStill P l.toArray w.drew (fun a' => wpList P l.toArray Q (ord.filterMap (l.toArray[·]?)) a' w.drew) (l.take n) a) : (Code.region id l.toArray true).wp P Q a w := by
  simp only [tailB, Bool.and_eq_true, decide_eq_true_eq] at hB
  obtain ⟨⟨⟨⟨hsel, hn⟩, hlen⟩, hg⟩, hh⟩ := hB
  have hn' : n < l.length := by simpa using hn
  have htl : (l.take n).length = n := by simp; omega
  have inv0 : HeadInv .any l.toArray n (Array.replicate l.toArray.size false) :=
    ⟨by simp, fun j oj _ hl => (by rw [getD_replicate_false] at hl; cases hl), fun t _ ht => getD_in (by simpa using ht) (getD_replicate_false _ _)⟩
  have H := head_lex (ord := ord) (w := w.drew) hsel hg hn (l.take n) 0 _ a (fun j hj => by
    have hj' : j < n := by rw [htl] at hj; exact hj
    simp [hj']) (by simpa using htl) inv0 (by simp) (by rw [htl]; exact hh) h
  refine wp_region_any hm ?_
  have := wpAny_of_head (Q' := Q) (g := ord.length) (fun listed a' hL => wpAny_of_order hsel hQ ord listed a' w.drew hL.1.1 hL.2) _ _ _ H
  rw [htl, show n + ord.length = l.toArray.size by omega] at this
  exact this

/-! ### One operation, by what its run is -/
theorem wpList_exec {Q : Exit → Act → World → Prop} {o : Oper} (hg : o.guard = none) {v : Value} {w' : World} (hr : (execOp a.eval o).run P w = .ok (.value v) w') (h : wpList P ops Q rest (a.put o.dst v) w') : wpList P ops Q (o :: rest) a w := by
  refine wpList_plain hg fun K hK => ?_
  simp only [Oper.wp, hr, Oper.upon]
  exact hK _ _ h
theorem wpList_execSkip {Q : Exit → Act → World → Prop} {o : Oper} (hg : o.guard = none) {w' : World} (hr : (execOp a.eval o).run P w = .ok .skip w') (h : wpList P ops Q rest (a.put o.dst undef) w') : wpList P ops Q (o :: rest) a w := by
  refine wpList_plain hg fun K hK => ?_
  simp only [Oper.wp, hr, Oper.upon]
  exact hK _ _ h
theorem wpStill_exec {Q : Act → Prop} {o : Oper} (hg : o.guard = none) {v : Value} (hr : (execOp a.eval o).run P w = .ok (.value v) w) (h : wpStill P ops w Q rest (a.put o.dst v)) : wpStill P ops w Q (o :: rest) a := by
  refine wpStill_step fun K hK => ?_
  rw [if_pos (by simp [Region.wanted, hg])]
  simp only [Oper.still, hr, Oper.stillUpon]
  exact ⟨trivial, hK _ h⟩
theorem wpQuiet_exec {C : World → Prop} {Q : Act → Prop} {o : Oper} (hg : o.guard = none) {v : Value} (hr : ∀ w, C w → (execOp a.eval o).run P w = .ok (.value v) w) (h : wpQuiet P ops C Q rest (a.put o.dst v)) : wpQuiet P ops C Q (o :: rest) a := by
  refine wpQuiet_step fun K hK => ?_
  rw [if_pos (by simp [Region.wanted, hg])]
  refine ⟨v, fun w hw => ?_, hK _ h⟩
  simp only [Oper.quietAt, hr w hw, Oper.quietUpon]
  exact ⟨trivial, trivial⟩

section
variable {κ : Type} [DecidableEq κ] {K : TypeId} {enc : κ → Value} {T E m clk : Nat} {L : Ents κ} {z : Value} {ρ : Operand → Value} {dst : Option Tmp} {ty : TypeId} {pos : String} {after : Array Edge} {g : Option (Nat × Bool)}

theorem exec_lookup (hK : KeyOK P K enc) (hT : P.underlying T = some (.map K E)) (hz : ∀ w, (zeroValue E).run P w = .ok z w) (hb : w.heap[m]? = some (.map (ents enc L) clk)) {x i : Operand} (hx : ρ x = .map (some m)) (k : κ) (hi : ρ i = enc k) :
    (execOp ρ ⟨dst, .lookup T x i false, ty, pos, after, g⟩).run P w = .ok (.value (getD k L z)) w := by
  simp only [execOp, hx, hi, Sem.run_bind, run_lookup hK hT hz hb, Result.andThen_ok, Sem.run_pure]

theorem exec_lookup_ok (hK : KeyOK P K enc) (hT : P.underlying T = some (.map K E)) (hz : ∀ w, (zeroValue E).run P w = .ok z w) (hb : w.heap[m]? = some (.map (ents enc L) clk)) {x i : Operand} (hx : ρ x = .map (some m)) (k : κ) (hi : ρ i = enc k) :
    (execOp ρ ⟨dst, .lookup T x i true, ty, pos, after, g⟩).run P w = .ok (.value (.tuple #[getD k L z, .bool (get k L).isSome])) w := by
  simp only [execOp, hx, hi, Sem.run_bind, run_lookup_ok hK hT hz hb, Result.andThen_ok, Sem.run_pure]

theorem exec_mapUpdate (hK : KeyOK P K enc) (hT : P.underlying T = some (.map K E)) (hb : w.heap[m]? = some (.map (ents enc L) clk)) {x i y : Operand} (hx : ρ x = .map (some m)) (k : κ) (hi : ρ i = enc k) :
    (execOp ρ ⟨dst, .mapUpdate T x i y, ty, pos, after, g⟩).run P w = .ok .skip (setObjW w m (.map (ents enc (upd k (ρ y) L clk)) (updClk k L clk))) := by
  simp only [execOp, hx, hi, Sem.run_bind, run_mapUpdate hK hT hb, Result.andThen_ok, Sem.run_pure]

theorem exec_delete {tk : TypeId} (hK : KeyOK P K enc) (hT : P.underlying T = some (.map K E)) (hb : w.heap[m]? = some (.map (ents enc L) clk)) {x i : Operand} (hx : ρ x = .map (some m)) (k : κ) (hi : ρ i = enc k) :
    (execOp ρ ⟨dst, .call { callee := .builtin .delete, args := #[x, i], argTypes := #[T, tk] }, ty, pos, after, g⟩).run P w = .ok (.value (.tuple #[])) (setObjW w m (.map (ents enc (del k L)) clk)) := by
  simp only [execOp, resolve, invoke, builtin, Sem.run_bind, Sem.run_pure, Result.andThen_ok, List.map_toArray, List.map_cons, List.map_nil, hx, hi, run_delete hK hT hb]

omit [DecidableEq κ] in
theorem exec_range (hT : P.underlying T = some (.map K E)) (hb : w.heap[m]? = some (.map (ents enc L) clk)) {x : Operand} (hx : ρ x = .map (some m)) :
    (execOp ρ ⟨dst, .range T x, ty, pos, after, g⟩).run P w = .ok (.value (.pointer (some ⟨w.heap.size, 0, none⟩))) (w.alloc (.mapIter (some m) clk #[] clk)) := by
  simp only [execOp, hx, Sem.run_bind, run_range hT hb, Result.andThen_ok, Sem.run_pure]

omit [DecidableEq κ] in
theorem exec_next {it : Nat} {seen : Array Nat} (hb : w.heap[m]? = some (.map (ents enc L) clk)) (hi : w.heap[it]? = some (.mapIter (some m) clk seen clk)) (hw : ∀ e ∈ L, e.2.2 < clk) {x : Operand} (hx : ρ x = .pointer (some ⟨it, 0, none⟩)) :
    ((∀ e ∈ L, e.2.2 ∈ seen) ∧ (execOp ρ ⟨dst, .next x false, ty, pos, after, g⟩).run P w = .ok (.value (.tuple #[.bool false])) w) ∨
    ∃ e ∈ L, e.2.2 ∉ seen ∧ ∃ nd, (execOp ρ ⟨dst, .next x false, ty, pos, after, g⟩).run P w = .ok (.value (.tuple #[.bool true, enc e.1, e.2.1])) (setObjW (w.drewN nd) it (.mapIter (some m) clk (seen.push e.2.2) clk)) := by
  rcases run_next (P := P) (ty := ty) hb hi hw with ⟨h1, h2⟩ | ⟨e, he, hns, nd, h2⟩
  · left
    refine ⟨h1, ?_⟩
    simp only [execOp, hx, Sem.run_bind, h2, Result.andThen_ok, Sem.run_pure]
  · right
    refine ⟨e, he, hns, nd, ?_⟩
    simp only [execOp, hx, Sem.run_bind, h2, Result.andThen_ok, Sem.run_pure]

omit [DecidableEq κ] in
theorem exec_entry {it n : Nat} {seen : Array Nat} {e : κ × Value × Nat} (hb : w.heap[m]? = some (.map (ents enc L) clk)) (hi : w.heap[it]? = some (.mapIter (some m) clk (seen.push e.2.2) clk)) (hn : L[n]? = some e)
    (hu : ∀ i e', L[i]? = some e' → e'.2.2 = e.2.2 → i = n) {x : Operand} (hx : ρ x = .pointer (some ⟨it, 0, none⟩)) :
    (execOp ρ ⟨dst, .entry x, ty, pos, after, g⟩).run P w = .ok (.value (.tuple #[enc e.1, e.2.1])) w := by
  simp only [execOp, hx, Sem.run_bind, run_entry hb hi hn hu, Result.andThen_ok, Sem.run_pure]

theorem exec_next_of {it : Nat} {v : Value} {w' : World} (hr : (Instr.next (.pointer (some ⟨it, 0, none⟩)) false ty).run P w = .ok v w') {x : Operand} (hx : ρ x = .pointer (some ⟨it, 0, none⟩)) :
    (execOp ρ ⟨dst, .next x false, ty, pos, after, g⟩).run P w = .ok (.value v) w' := by
  simp only [execOp, hx, Sem.run_bind, hr, Result.andThen_ok, Sem.run_pure]
theorem exec_entry_of {it : Nat} {v : Value} {w' : World} (hr : (Instr.entry (.pointer (some ⟨it, 0, none⟩))).run P w = .ok v w') {x : Operand} (hx : ρ x = .pointer (some ⟨it, 0, none⟩)) :
    (execOp ρ ⟨dst, .entry x, ty, pos, after, g⟩).run P w = .ok (.value v) w' := by
  simp only [execOp, hx, Sem.run_bind, hr, Result.andThen_ok, Sem.run_pure]

/-- 'm[k] = append(m[k], ..)': the entry is found, or laid with a zero element. -/
theorem exec_mapEntry (hK : KeyOK P K enc) (hT : P.underlying T = some (.map K E)) (hz : ∀ w, (zeroValue E).run P w = .ok z w) (hb : w.heap[m]? = some (.map (ents enc L) clk)) (hwf : WF L clk) {x i : Operand} (hx : ρ x = .map (some m)) (k : κ) (hi : ρ i = enc k) :
    ∃ (st : Nat) (L' : Ents κ) (clk' : Nat), (execOp ρ ⟨dst, .mapEntry T x i, ty, pos, after, g⟩).run P w = .ok (.value (.tuple #[getD k L z, .int .i64 st])) (setObjW w m (.map (ents enc L') clk')) ∧ clk' = updClk k L clk ∧
      ∃ n e, L'[n]? = some e ∧ e.2.2 = st ∧ (∀ i e', L'[i]? = some e' → e'.2.2 = e.2.2 → i = n) ∧ ∀ v, (L'.modify n fun e => (e.1, v, e.2.2)) = upd k v L clk := by
  rcases run_mapEntry hK hT hz hb k with ⟨n, e, hn, hk, hl, hr⟩ | ⟨hl, hr⟩
  · refine ⟨e.2.2, L, clk, ?_, by simp [updClk, hl], n, e, hn, rfl, hwf.stamp hn, fun v => by simp [upd, hl]⟩
    have hg : getD k L z = e.2.1 := by simp [getD, get, hl]
    simp only [execOp, hx, hi, Sem.run_bind, hr, Result.andThen_ok, Sem.run_pure, hg]
  · have hnone : get k L = none := by simp [get, hl]
    refine ⟨clk, L ++ [(k, z, clk)], clk + 1, ?_, by simp [updClk, hl], L.length, (k, z, clk), by simp, rfl, ?_, fun v => ?_⟩
    · have hg : getD k L z = z := by simp [getD, hnone]
      simp only [execOp, hx, hi, Sem.run_bind, hr, Result.andThen_ok, Sem.run_pure, hg]
    · have hwf' : WF (L ++ [(k, z, clk)]) (clk + 1) := by
        have := hwf.upd (k := k) (v := z)
        simpa [upd, updClk, hl] using this
      exact hwf'.stamp (by simp)
    · simp only [upd, hl]
      apply List.ext_getElem?
      intro j
      rw [List.getElem?_modify]
      by_cases hj : L.length = j
      · subst hj; simp
      · simp only [hj, if_false]
        by_cases hlt : j < L.length
        · simp [List.getElem?_append_left hlt]
        · rw [List.getElem?_append_right (by omega), List.getElem?_append_right (by omega)]
          have : 0 < j - L.length := by omega
          simp [List.getElem?_singleton, show ¬ j - L.length = 0 by omega]

omit [DecidableEq κ] in
theorem exec_entryStore {n : Nat} {e : κ × Value × Nat} (hb : w.heap[m]? = some (.map (ents enc L) clk)) (hn : L[n]? = some e) (hu : ∀ i e', L[i]? = some e' → e'.2.2 = e.2.2 → i = n) {x y s : Operand} (hx : ρ x = .map (some m)) (hs : ρ s = .int .i64 e.2.2) :
    (execOp ρ ⟨dst, .entryStore T x s y, ty, pos, after, g⟩).run P w = .ok .skip (setObjW w m (.map (ents enc (L.modify n fun e => (e.1, ρ y, e.2.2))) clk)) := by
  simp only [execOp, hx, hs, Sem.run_bind, run_entryStore hb hn hu, Result.andThen_ok, Sem.run_pure]
end

/-! ### Slices of one's own, appended to -/
/-- v owns the cells xs (cells of element type e, one each). -/
def Own1 (w : World) (e : TypeId) (v : Value) (xs : List Value) : Prop := w.ownsRow 0 e 1 v xs.length xs

theorem Own1.kept {w w' : World} {e : TypeId} {v : Value} {xs : List Value} (h : Own1 w e v xs) (hb : ∀ r, v.ownBlock = some r → w'.heap[r]? = w.heap[r]?) : Own1 w' e v xs := by
  refine ⟨h.1, ?_⟩
  rcases h.2 with h2 | ⟨g, cap, cur, hv, h0, hg, r⟩
  · exact .inl h2
  · exact .inr ⟨g, cap, cur, hv, h0, (hb g (by rw [hv]; rfl)).trans hg, r⟩

theorem Own1.form {w : World} {e : TypeId} {v : Value} {xs : List Value} (h : Own1 w e v xs) :
    (v = .slice none 0 0 ∧ xs = []) ∨ ∃ g cap cur, v = .slice (some ⟨g, 0, none⟩) xs.length cap ∧ xs.length ≤ cap ∧ cap ≤ maxLen ∧ w.heap[g]? = some (.cells cur e (0, 0)) ∧ cur.size = cap ∧ (∀ (i : Nat) (u : Value), xs[i]? = some u → cur[i]? = some u) := by
  rcases h.2 with ⟨h1, h2⟩ | ⟨g, cap, cur, hv, h0, hg, hn, hm, hs, ht⟩
  · exact .inl ⟨h1, List.eq_nil_of_length_eq_zero h2⟩
  · refine .inr ⟨g, cap, cur, hv, hn, hm, hg, by simpa using hs, fun i u hi => ?_⟩
    rw [← ht, List.getElem?_take] at hi
    split at hi
    · simpa using hi
    · cases hi

theorem Own1.lit {w : World} {e : TypeId} {xs : Array Value} (hl : xs.size ≤ maxLen) : Own1 (w.alloc (.cells xs e)) e (.slice (some ⟨w.heap.size, 0, none⟩) xs.size xs.size) xs.toList := by
  refine ⟨by simp, .inr ⟨w.heap.size, xs.size, xs, by simp, Nat.zero_le _, heap_alloc_at, by simp, hl, by simp, ?_⟩⟩
  rw [List.take_of_length_le]
  simp

theorem run_append1 {t ty e : TypeId} {i : TypeInfo} {z : Value} {bytes : Nat} (ht : P.underlying t = some (.slice e)) (hi : P.info? e = some i) (hz : i.zero = some z) (hsize : i.size = 1) (hby : i.bytes = bytes) (hzs : z.cells.size = 1)
    {v : Value} {xs : List Value} (hown : Own1 w e v xs) {u : Value} {ys : List Value} (hu : Own1 w e u ys) (h1 : ∀ y ∈ ys, y.oneCell' = true) (h63 : xs.length + ys.length ≤ maxLen) (hbytes : (xs.length + ys.length) * bytes ≤ 140737488355328) :
    ∃ v' w', (Builtin.append_ #[t, t] ty #[v, u]).run P w = .ok v' w' ∧ Own1 w' e v' (xs ++ ys) ∧ w.grownBy w' v.ownBlock ∧ (v'.ownBlock = v.ownBlock ∨ v'.ownBlock = some w.heap.size) := by
  rcases hu.form with ⟨rfl, rfl⟩ | ⟨g, cap, cur, rfl, hle, hcm, hg, hcs, hcur⟩
  · refine ⟨v, w, ?_, by simpa [Own1] using hown, World.grownBy.refl _ _, .inl rfl⟩
    rcases hown.form with ⟨rfl, rfl⟩ | ⟨g, cap, cur, rfl, hle, hcm, hg, hcs, hcur⟩
    · simp [Builtin.append_, run_underlying ht, sizeOf, typeInfo, hi, Builtin.lenOf, Builtin.firstCells]
    · simp [Builtin.append_, run_underlying ht, sizeOf, typeInfo, hi, Builtin.lenOf, Builtin.firstCells, hle, storeCells]
  · obtain ⟨v', w', h1, h2, h3, _, h5⟩ := run_append_own_at (P := P) w 0 t ty e i z 1 bytes ht hi hz hsize hby hzs (by decide) v xs.length xs hown ⟨g, 0, none⟩ ys.length cap ys (by simp)
      (fun j x hj => by rw [addr_add, Nat.zero_add]; exact cell_of hg (hcur j x hj)) h1 h63 hbytes (Nat.zero_le _)
    exact ⟨v', w', h1, by unfold Own1; rw [List.length_append]; exact h2, h3, h5⟩

theorem exec_append1 {ρ : Operand → Value} {dst : Option Tmp} {pos : String} {after : Array Edge} {gd : Option (Nat × Bool)} {t ty e : TypeId} {i : TypeInfo} {z : Value} {bytes : Nat} (ht : P.underlying t = some (.slice e)) (hi : P.info? e = some i) (hz : i.zero = some z) (hsize : i.size = 1) (hby : i.bytes = bytes) (hzs : z.cells.size = 1)
    {v : Value} {xs : List Value} (hown : Own1 w e v xs) {u : Value} {ys : List Value} (hu : Own1 w e u ys) (h1 : ∀ y ∈ ys, y.oneCell' = true) (h63 : xs.length + ys.length ≤ maxLen) (hbytes : (xs.length + ys.length) * bytes ≤ 140737488355328) {s x : Operand} (hs : ρ s = v) (hx : ρ x = u) :
    ∃ v' w', (execOp ρ ⟨dst, .call { callee := .builtin .append, args := #[s, x], argTypes := #[t, t] }, ty, pos, after, gd⟩).run P w = .ok (.value v') w' ∧ Own1 w' e v' (xs ++ ys) ∧ w.grownBy w' v.ownBlock ∧ (v'.ownBlock = v.ownBlock ∨ v'.ownBlock = some w.heap.size) := by
  obtain ⟨v', w', hr, h2⟩ := run_append1 (ty := ty) ht hi hz hsize hby hzs hown hu h1 h63 hbytes
  refine ⟨v', w', ?_, h2⟩
  simp only [execOp, resolve, invoke, builtin, Sem.run_bind, Sem.run_pure, Result.andThen_ok, List.map_toArray, List.map_cons, List.map_nil, hs, hx, hr]


theorem eval_put_same {a : Act} {d : Tmp} {v : Value} (h : d < a.tmps.size) : (a.put (some d) v).eval (.tmp d) = v := by
  simp [Act.put, Act.eval, h]
theorem eval_put_ne {a : Act} {d e : Tmp} {v : Value} (h : d ≠ e) : (a.put (some d) v).eval (.tmp e) = a.eval (.tmp e) := by
  simp only [Act.put, Act.eval, Array.getD_eq_getD_getElem?]
  rw [Array.getElem?_setIfInBounds_ne h]
theorem size_put {a : Act} {d : Tmp} {v : Value} : (a.put (some d) v).tmps.size = a.tmps.size := by simp [Act.put]

/-- 'm[k] = append(m[k], ys...)', its five operations at once, behind the reading of all operands. -/
theorem wpList_mapAppend {κ : Type} [DecidableEq κ] {K : TypeId} {enc : κ → Value} {T S e m clk : Nat} {L : Ents κ} {Q : Exit → Act → World → Prop}
    (hK : KeyOK P K enc) (hT : P.underlying T = some (.map K S)) (hz : ∀ w, (zeroValue S).run P w = .ok (.slice none 0 0) w) {i : TypeInfo} {z : Value} {bytes : Nat} (ht : P.underlying S = some (.slice e)) (hi : P.info? e = some i) (hz0 : i.zero = some z) (hsize : i.size = 1) (hby : i.bytes = bytes) (hzs : z.cells.size = 1)
    (hb : w.heap[m]? = some (.map (ents enc L) clk)) (hwf : WF L clk) (k : κ) {xs ys : List Value} {u : Value} (hown : Own1 w e (getD k L (.slice none 0 0)) xs) (hu : Own1 w e u ys) (h1 : ∀ y ∈ ys, y.oneCell' = true)
    (h63 : xs.length + ys.length ≤ maxLen) (hbytes : (xs.length + ys.length) * bytes ≤ 140737488355328)
    {d1 d2 d3 d4 nx ny N : Nat} {d5 : Option Tmp} {kk : Operand} {ty1 ty2 ty3 ty4 ty5 : TypeId} {p1 p2 p3 p4 p5 : String} {f1 f2 f3 f4 f5 : Array Edge}
    (hx : a.eval (.tmp nx) = .map (some m)) (hk : a.eval kk = enc k) (hy : a.eval (.tmp ny) = u) (hN : a.tmps.size = N)
    (hd : (d1 < N ∧ d2 < N ∧ d3 < N ∧ d4 < N) ∧ (d1 ≠ d2 ∧ d1 ≠ d3 ∧ d1 ≠ d4 ∧ d2 ≠ d3 ∧ d2 ≠ d4 ∧ d3 ≠ d4) ∧ (d1 ≠ nx ∧ d2 ≠ nx ∧ d3 ≠ nx ∧ d4 ≠ nx) ∧ d1 ≠ ny ∧ d2 ≠ ny ∧ d3 ≠ ny)
    (h : ∀ (st : Nat) v w', w'.heap[m]? = some (.map (ents enc (upd k v L clk)) (updClk k L clk)) → Own1 w' e v (xs ++ ys) → (v.ownBlock = (getD k L (.slice none 0 0)).ownBlock ∨ ∃ r, v.ownBlock = some r ∧ w.heap.size ≤ r) →
      Mod (fun b => b = m ∨ (getD k L (.slice none 0 0)).ownBlock = some b) w w' →
      wpList P ops Q rest (((((a.put (some d1) (.tuple #[getD k L (.slice none 0 0), .int .i64 st])).put (some d2) (getD k L (.slice none 0 0))).put (some d3) (.int .i64 st)).put (some d4) v).put d5 undef) w') :
    wpList P ops Q (⟨some d1, .mapEntry T (.tmp nx) kk, ty1, p1, f1, none⟩ :: ⟨some d2, .extract (.tmp d1) 0, ty2, p2, f2, none⟩ :: ⟨some d3, .extract (.tmp d1) 1, ty3, p3, f3, none⟩ ::
      ⟨some d4, .call { callee := .builtin .append, args := #[.tmp d2, .tmp ny], argTypes := #[S, S] }, ty4, p4, f4, none⟩ :: ⟨d5, .entryStore T (.tmp nx) (.tmp d3) (.tmp d4), ty5, p5, f5, none⟩ :: rest) a w := by
  obtain ⟨⟨b1, b2, b3, b4⟩, ⟨n12, n13, n14, n23, n24, n34⟩, ⟨x1, x2, x3, x4⟩, y1, y2, y3⟩ := hd
  subst hN
  have ht1 : ∀ t, (a.put (some d1) t).eval (.tmp d1) = t := fun t => eval_put_same b1
  have ht2 : ∀ t v, ((a.put (some d1) t).put (some d2) v).eval (.tmp d1) = t := fun t v => by rw [eval_put_ne n12.symm, ht1]
  have ht3 : ∀ t v s, (((a.put (some d1) t).put (some d2) v).put (some d3) s).eval (.tmp d2) = v := fun t v s => by rw [eval_put_ne n23.symm, eval_put_same (by rw [size_put]; exact b2)]
  have hy : ∀ t v s, (((a.put (some d1) t).put (some d2) v).put (some d3) s).eval (.tmp ny) = u := fun t v s => by rw [eval_put_ne y3, eval_put_ne y2, eval_put_ne y1, hy]
  have ht4 : ∀ t v s r, ((((a.put (some d1) t).put (some d2) v).put (some d3) s).put (some d4) r).eval (.tmp nx) = .map (some m) := fun t v s r => by rw [eval_put_ne x4, eval_put_ne x3, eval_put_ne x2, eval_put_ne x1, hx]
  have ht5 : ∀ t v s r, ((((a.put (some d1) t).put (some d2) v).put (some d3) s).put (some d4) r).eval (.tmp d3) = s := fun t v s r => by rw [eval_put_ne n34.symm, eval_put_same (by rw [size_put, size_put]; exact b3)]
  have ht6 : ∀ t v s r, ((((a.put (some d1) t).put (some d2) v).put (some d3) s).put (some d4) r).eval (.tmp d4) = r := fun t v s r => eval_put_same (by rw [size_put, size_put, size_put]; exact b4)
  obtain ⟨st, L', clk', hr1, hclk, n, en, hn, hst, hun, hupd⟩ := exec_mapEntry (dst := some d1) (ty := ty1) (pos := p1) (after := f1) (g := none) hK hT hz hb hwf hx k hk
  have hmlt : m < w.heap.size := lt_of_block hb
  have hcell : ∀ (v : Value) (xs : List Value), Own1 w e v xs → v.ownBlock ≠ some m := fun v xs ho hv => by
    rcases ho.form with ⟨rfl, _⟩ | ⟨g, cap, cur, rfl, _, _, hg, _⟩
    · simp [Value.ownBlock] at hv
    · simp [Value.ownBlock] at hv; subst hv; rw [hb] at hg; simp at hg
  have hown1 : Own1 (setObjW w m (.map (ents enc L') clk')) e (getD k L (.slice none 0 0)) xs := hown.kept (fun r hr => setObjW_ne (fun e => hcell _ _ hown (e ▸ hr)))
  have hu1 : Own1 (setObjW w m (.map (ents enc L') clk')) e u ys := hu.kept (fun r hr => setObjW_ne (fun e => hcell _ _ hu (e ▸ hr)))
  have hb1 : (setObjW w m (.map (ents enc L') clk')).heap[m]? = some (.map (ents enc L') clk') := setObjW_at hmlt
  obtain ⟨v, w2, hr2, hown2, hgrow, hloc⟩ := exec_append1 (ρ := Act.eval (((a.put (some d1) (.tuple #[getD k L (.slice none 0 0), .int .i64 st])).put (some d2) (getD k L (.slice none 0 0))).put (some d3) (.int .i64 st))) (dst := some d4) (ty := ty4) (pos := p4) (after := f4) (gd := none)
    ht hi hz0 hsize hby hzs hown1 hu1 h1 h63 hbytes (s := .tmp d2) (x := .tmp ny) (ht3 _ _ _) (hy _ _ _)
  have hb2 : w2.heap[m]? = some (.map (ents enc L') clk') := (hgrow.block m (by simpa using hmlt) (fun e => hcell _ _ hown e.symm)).trans hb1
  have hr3 := exec_entryStore (P := P) (T := T) (ρ := Act.eval ((((a.put (some d1) (.tuple #[getD k L (.slice none 0 0), .int .i64 st])).put (some d2) (getD k L (.slice none 0 0))).put (some d3) (.int .i64 st)).put (some d4) v)) (dst := d5) (ty := ty5) (pos := p5) (after := f5) (g := none)
    hb2 hn hun (x := .tmp nx) (y := .tmp d4) (s := .tmp d3) (ht4 _ _ _ _) (by rw [ht5, hst])
  rw [ht6, hupd, hclk] at hr3
  refine wpList_exec rfl hr1 ?_
  refine wpList_exec (v := getD k L (.slice none 0 0)) (w' := setObjW w m (.map (ents enc L') clk')) rfl (by simp only [execOp, ht1]; simp [Instr.extract]) ?_
  refine wpList_exec (v := .int .i64 st) (w' := setObjW w m (.map (ents enc L') clk')) rfl (by simp only [execOp, ht2]; simp [Instr.extract]) ?_
  refine wpList_exec rfl hr2 ?_
  refine wpList_execSkip rfl hr3 ?_
  have hm2lt : m < w2.heap.size := lt_of_block hb2
  have hvm : v.ownBlock ≠ some m := by
    rcases hloc with hl | hl
    · rw [hl]; exact hcell _ _ hown
    · rw [hl]; simp; omega
  refine h st v _ (setObjW_at hm2lt) (hown2.kept (fun r hr => setObjW_ne (fun e => hvm (e ▸ hr)))) (hloc.imp id (fun h => ⟨_, h, by simp⟩)) ?_
  refine (((setObjW_mod m _).trans (T := fun b => b = m ∨ (getD k L (.slice none 0 0)).ownBlock = some b) (Mod.grown (Mod.refl (fun b => (getD k L (.slice none 0 0)).ownBlock = some b) _) hgrow (fun x hx _ => hx)) (fun _ h => .inl h) (fun _ _ h => .inr h)).trans (setObjW_mod m _) (fun _ h => h) (fun _ _ h => .inl h))

end
end Go.Tn
