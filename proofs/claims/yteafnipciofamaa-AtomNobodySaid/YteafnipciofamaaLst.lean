/- Lists in slices, elements of some cells each: read, owned, appended to. No program. -/
import Derived.Test.YteafnipciofamaaOps
namespace Go.Tn
open Go.RowKit
variable {P : Program} {α : Type} {en : α → List Value} {k : Nat} {e t : TypeId}

theorem get_flatMap (hen : ∀ x, (en x).length = k) : ∀ (xs : List α) (i j : Nat) (x : α), xs[i]? = some x → j < k → (xs.flatMap en)[i * k + j]? = (en x)[j]?
  | [], i, j, x, h, _ => by simp at h
  | y :: ys, 0, j, x, h, hj => by
    have : y = x := by simpa using h
    subst this
    rw [List.flatMap_cons, Nat.zero_mul, Nat.zero_add, List.getElem?_append_left (by rw [hen]; exact hj)]
  | y :: ys, i + 1, j, x, h, hj => by
    have hx : ys[i]? = some x := by simpa using h
    have e1 : (i + 1) * k + j = (en y).length + (i * k + j) := by rw [hen, Nat.add_mul]; omega
    rw [List.flatMap_cons, e1, List.getElem?_append_right (Nat.le_add_right _ _), Nat.add_sub_cancel_left]
    exact get_flatMap hen ys i j x hx hj
theorem len_flatMap (hen : ∀ x, (en x).length = k) : ∀ xs : List α, (xs.flatMap en).length = xs.length * k
  | [] => by simp
  | y :: ys => by rw [List.flatMap_cons, List.length_append, hen, len_flatMap hen ys, List.length_cons, Nat.add_mul]; omega

/-- The slice can be read: its elements lie. -/
def LSl (en : α → List Value) (k : Nat) (w : World) (v : Value) (xs : List α) : Prop :=
  ∃ ao cap, v = .slice ao xs.length cap ∧ xs.length ≤ cap ∧ cap ≤ maxLen ∧ (0 < xs.length → ∃ b off, ao = some ⟨b, off, none⟩ ∧ b < w.heap.size ∧ ∀ (i : Nat) (x : α), xs[i]? = some x → Lies w b (off + i * k) (en x).toArray)
theorem Lies.below' {w w' : World} {b o B : Nat} {cs : Array Value} (h : Lies w b o cs) (hb : Below B w w') (hB : b < B) : Lies w' b o cs := fun j hj => (hb.cell (p := ⟨b, o + j, none⟩) hB).trans (h j hj)
theorem LSl.nil (w : World) : LSl en k w (.slice none 0 0) [] := ⟨none, 0, rfl, Nat.le_refl _, Nat.zero_le _, fun h => absurd h (Nat.lt_irrefl _)⟩
theorem LSl.below {w w' : World} {v : Value} {xs : List α} (h : LSl en k w v xs) (hb : Below w.heap.size w w') : LSl en k w' v xs := by
  obtain ⟨ao, cap, rfl, h1, h2, h3⟩ := h
  refine ⟨ao, cap, rfl, h1, h2, fun h0 => ?_⟩
  obtain ⟨b, off, rfl, hlt, hc⟩ := h3 h0
  exact ⟨b, off, rfl, Nat.lt_of_lt_of_le hlt hb.size, fun i x hi => (hc i x hi).below' hb hlt⟩
theorem LSl.lit {w : World} {x : α} (hen : ∀ x, (en x).length = k) (T : TypeId) : LSl en k (w.alloc (.cells (en x).toArray T)) (.slice (some ⟨w.heap.size, 0, none⟩) 1 1) [x] := by
  refine ⟨_, 1, rfl, by simp, by unfold maxLen; decide, fun _ => ⟨w.heap.size, 0, rfl, by simp, fun i y hi => ?_⟩⟩
  cases i with
  | zero =>
    have : x = y := by simpa using hi
    subst this
    rw [Nat.zero_mul]
    exact lies_of heap_alloc_at
  | succ i => simp at hi
/-- A part of a slice. -/
theorem LSl.at_ {w : World} {v : Value} {xs : List α} (h : LSl en k w v xs) {i : Nat} {x : α} (hi : xs[i]? = some x) : ∃ b off cap, v = .slice (some ⟨b, off, none⟩) xs.length cap ∧ b < w.heap.size ∧ Lies w b (off + i * k) (en x).toArray := by
  obtain ⟨ao, cap, rfl, h1, h2, h3⟩ := h
  have hlt := (List.getElem?_eq_some_iff.1 hi).1
  obtain ⟨b, off, rfl, hlt2, hc⟩ := h3 (by omega)
  exact ⟨b, off, cap, rfl, hlt2, hc i x hi⟩

/-- A list of one's own. -/
structure LOut (en : α → List Value) (k : Nat) (e : TypeId) (B : Nat) (w : World) (v : Value) (xs : List α) : Prop where
  own : w.ownsRow 0 e k v xs.length (xs.flatMap en)
  lo : ∀ r, v.ownBlock = some r → B ≤ r
  le : B ≤ w.heap.size
theorem LOut.nil {B : Nat} {w : World} (h : B ≤ w.heap.size) : LOut en k e B w (.slice none 0 0) ([] : List α) :=
  ⟨⟨by simp, .inl ⟨rfl, rfl⟩⟩, (fun r hr => by cases hr), h⟩
theorem LOut.kept {B : Nat} {w w' : World} {v : Value} {xs : List α} (h : LOut en k e B w v xs) (hs : w.heap.size ≤ w'.heap.size) (hb : ∀ r, v.ownBlock = some r → w'.heap[r]? = w.heap[r]?) : LOut en k e B w' v xs := by
  refine ⟨⟨h.own.1, ?_⟩, h.lo, Nat.le_trans h.le hs⟩
  rcases h.own.2 with h2 | ⟨g, cap, cur, hv, h0, hg, r⟩
  · exact .inl h2
  · exact .inr ⟨g, cap, cur, hv, h0, (hb g (by rw [hv]; rfl)).trans hg, r⟩
theorem LOut.lt {B : Nat} {w : World} {v : Value} {xs : List α} (h : LOut en k e B w v xs) {r : Nat} (hr : v.ownBlock = some r) : r < w.heap.size := by
  rcases h.own.2 with ⟨hv, _⟩ | ⟨g, cap, cur, hv, _, hg, _⟩
  · rw [hv] at hr; cases hr
  · rw [hv] at hr; cases hr; exact lt_of_block hg
theorem LOut.below {B : Nat} {w w' : World} {v : Value} {xs : List α} (h : LOut en k e B w v xs) (hb : Below w.heap.size w w') : LOut en k e B w' v xs :=
  h.kept hb.size fun _ hr => hb.block _ (h.lt hr)
theorem LOut.mono {B B' : Nat} {w : World} {v : Value} {xs : List α} (h : LOut en k e B w v xs) (hB : B' ≤ B) : LOut en k e B' w v xs :=
  ⟨h.own, fun r hr => Nat.le_trans hB (h.lo r hr), Nat.le_trans hB h.le⟩
theorem LOut.sl {B : Nat} {w : World} {v : Value} {xs : List α} (hen : ∀ x, (en x).length = k) (h : LOut en k e B w v xs) : LSl en k w v xs := by
  rcases h.own.2 with ⟨hv, h0⟩ | ⟨g, cap, cur, hv, _, hg, hn, hm, hs, ht⟩
  · have : xs = [] := List.eq_nil_of_length_eq_zero h0
    subst this
    subst hv
    exact LSl.nil w
  · refine ⟨_, cap, hv, hn, hm, fun _ => ⟨g, 0, rfl, lt_of_block hg, fun i x hi j hj => ?_⟩⟩
    have hj' : j < k := by simpa [hen] using hj
    refine cell_of hg ?_
    have h1 := get_flatMap hen xs i j x hi hj'
    rw [← ht, List.getElem?_take] at h1
    split at h1
    · rw [Nat.zero_add]
      rw [Array.getElem?_toList] at h1
      rw [h1]
      simp
    · rw [List.getElem?_eq_getElem (by rw [hen]; exact hj')] at h1
      cases h1

/-- A slice's type and its elements'. -/
structure ElT (P : Program) (t e : TypeId) (k : Nat) (en : α → List Value) : Prop where
  sl : P.underlying t = some (.slice e)
  info : (P.info? e).map (fun i => (i.zero.map (fun z => z.cells.size), i.size, decide (i.bytes ≤ 1000))) = some (some k, k, true)
  pos : 0 < k
  len : ∀ x, (en x).length = k
  one : ∀ x, ∀ u ∈ en x, u.oneCell' = true

theorem run_appendM (E : ElT P t e k en) {ty : TypeId} {B : Nat} {w : World} {v u : Value} {xs ys : List α} (h : LOut en k e B w v xs) (hu : LSl en k w u ys) (hsz : xs.length + ys.length ≤ 100000) :
    ∃ v' w', (Builtin.append_ #[t, t] ty #[v, u]).run P w = .ok v' w' ∧ LOut en k e B w' v' (xs ++ ys) ∧ w.grownBy w' v.ownBlock ∧ (v'.ownBlock = v.ownBlock ∨ v'.ownBlock = some w.heap.size) := by
  obtain ⟨i, hi, hI⟩ : ∃ i, P.info? e = some i ∧ (i.zero.map (fun z => z.cells.size), i.size, decide (i.bytes ≤ 1000)) = (some k, k, true) := by
    have := E.info
    cases hq : P.info? e with
    | none => simp [hq] at this
    | some i => exact ⟨i, rfl, by simpa [hq] using this⟩
  obtain ⟨hz0, hI⟩ := Prod.mk.inj hI
  obtain ⟨hsize, hby⟩ := Prod.mk.inj hI
  obtain ⟨z, hz, hzs⟩ : ∃ z, i.zero = some z ∧ z.cells.size = k := by
    cases hq : i.zero with
    | none => simp [hq] at hz0
    | some z => exact ⟨z, rfl, by simpa [hq] using hz0⟩
  have hby' : i.bytes ≤ 1000 := of_decide_eq_true hby
  obtain ⟨ao, cap, rfl, hu1, hu2, hu3⟩ := hu
  have go : ∀ a : Addr, ao = some a → (∀ j u, (ys.flatMap en)[j]? = some u → w.cell? (a.add j) = some u) → ∃ v' w', (Builtin.append_ #[t, t] ty #[v, .slice ao ys.length cap]).run P w = .ok v' w' ∧ LOut en k e B w' v' (xs ++ ys) ∧ w.grownBy w' v.ownBlock ∧ (v'.ownBlock = v.ownBlock ∨ v'.ownBlock = some w.heap.size) := fun a ha hc => by
    subst ha
    obtain ⟨v', w', h1, h2, h3, _, h5⟩ := run_append_own_at (P := P) w 0 t ty e i z k i.bytes E.sl hi hz hsize rfl hzs E.pos v xs.length (xs.flatMap en) h.own a ys.length cap (ys.flatMap en) (len_flatMap E.len ys) hc (fun u hu => by
      obtain ⟨x, _, hx⟩ := List.mem_flatMap.1 hu
      exact E.one x u hx) (by unfold maxLen; omega) (by
        have : (xs.length + ys.length) * i.bytes ≤ 100000 * 1000 := Nat.mul_le_mul hsz hby'
        omega) (Nat.zero_le _)
    refine ⟨v', w', h1, ⟨by rw [List.length_append, List.flatMap_append]; exact h2, fun r hr => ?_, Nat.le_trans h.le h3.size⟩, h3, h5⟩
    rcases h5 with h5 | h5
    · exact h.lo r (h5 ▸ hr)
    · rw [h5] at hr
      cases hr
      exact h.le
  by_cases hy : 0 < ys.length
  · obtain ⟨b, off, rfl, hlt, hc⟩ := hu3 hy
    refine go _ rfl fun j u hj => ?_
    have hjl := (List.getElem?_eq_some_iff.1 hj).1
    rw [len_flatMap E.len] at hjl
    have hk := E.pos
    have hdm : j / k * k + j % k = j := by rw [Nat.mul_comm]; exact Nat.div_add_mod j k
    have hjk : j / k < ys.length := Nat.div_lt_of_lt_mul (by rw [Nat.mul_comm]; exact hjl)
    have hx : ys[j / k]? = some ys[j / k] := List.getElem?_eq_getElem hjk
    have hm : j % k < k := Nat.mod_lt _ hk
    have h1 := get_flatMap E.len ys (j / k) (j % k) _ hx hm
    rw [hdm, hj] at h1
    have h2 := hc _ _ hx (j % k) (by simpa [E.len] using hm)
    rw [addr_add]
    rw [show off + j = off + j / k * k + j % k by omega, h2]
    have h3 : (en ys[j / k])[j % k]? = some ((en ys[j / k])[j % k]'(by rw [E.len]; exact hm)) := List.getElem?_eq_getElem _
    rw [h3] at h1
    rw [h1]
    simp
  · have hy0 : ys = [] := List.eq_nil_of_length_eq_zero (by omega)
    subst hy0
    cases ao with
    | some a => exact go a rfl (by simp)
    | none =>
      refine ⟨v, w, ?_, by simpa using h, World.grownBy.refl _ _, .inl rfl⟩
      rcases h.own.2 with ⟨hv, h0⟩ | ⟨g, cap', cur, hv, _, hg, hn, hm, hs, ht⟩
      · have : xs = [] := List.eq_nil_of_length_eq_zero h0
        subst this
        subst hv
        simp [Builtin.append_, run_underlying E.sl, sizeOf, typeInfo, hi, Builtin.lenOf, Builtin.firstCells]
      · subst hv
        simp [Builtin.append_, run_underlying E.sl, sizeOf, typeInfo, hi, Builtin.lenOf, Builtin.firstCells, hn, storeCells]
theorem wpList_appendM {ops : Array Oper} {rest : List Oper} {a : Act} {Q : Exit → Act → World → Prop} (E : ElT P t e k en) {B : Nat} {w : World} {v u : Value} {xs ys : List α} (h : LOut en k e B w v xs) (hu : LSl en k w u ys) (hsz : xs.length + ys.length ≤ 100000) {dst : Option Tmp} {ty : TypeId} {pos : String} {after : Array Edge} {s y : Operand}
    (hs : a.eval s = v) (hy : a.eval y = u)
    (hk : ∀ v' w', LOut en k e B w' v' (xs ++ ys) → Below B w w' → w.grownBy w' v.ownBlock → wpList P ops Q rest (a.put dst v') w') :
    wpList P ops Q ({ dst := dst, op := .call { callee := .builtin .append, args := #[s, y], argTypes := #[t, t] }, type := ty, pos := pos, after := after, guard := none } :: rest) a w := by
  obtain ⟨v', w', hr, ho, hg, _⟩ := run_appendM E (ty := ty) h hu hsz
  refine wpList_exec rfl (v := v') (w' := w') ?_ (hk v' w' ho ((Below.refl B w).grown hg h.le h.lo) hg)
  simp only [execOp, resolve, invoke, builtin, Sem.run_bind, Sem.run_pure, Result.andThen_ok, List.map_toArray, List.map_cons, List.map_nil, hs, hy, hr]
/-- 'append(s, x)': the list of one element is laid in a block of its own. -/
theorem wpList_append1 {ops : Array Oper} {rest : List Oper} {a : Act} {Q : Exit → Act → World → Prop} (E : ElT P t e k en) {B : Nat} {w wx : World} {v : Value} {xs : List α} (h : LOut en k e B w v xs) (x : α) (hsz : xs.length ≤ 1000) {dst : Option Tmp} {ty : TypeId} {pos : String} {after : Array Edge} {s y : Operand}
    (hwx : wx = w.alloc (.cells (en x).toArray e)) (hs : a.eval s = v) (hy : a.eval y = .slice (some ⟨w.heap.size, 0, none⟩) 1 1)
    (hk : ∀ v' w', LOut en k e B w' v' (xs ++ [x]) → Below B w w' → wpList P ops Q rest (a.put dst v') w') :
    wpList P ops Q ({ dst := dst, op := .call { callee := .builtin .append, args := #[s, y], argTypes := #[t, t] }, type := ty, pos := pos, after := after, guard := none } :: rest) a wx := by
  subst hwx
  exact wpList_appendM E (h.below ((Below.refl _ _).alloc (Nat.le_refl _) _)) (LSl.lit E.len e) (by simp; omega) hs hy fun v' w' ho hb _ => hk v' w' ho (((Below.refl _ _).alloc h.le _).trans hb)
end Go.Tn
