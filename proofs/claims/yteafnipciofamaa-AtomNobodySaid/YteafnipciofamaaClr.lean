/- clear of a map, of the end of a slice; a struct stored into a slice's element. No program. -/
import Derived.Test.YteafnipciofamaaSlc
import Derived.Laws.IdiomCopy
import Derived.Lib.SliceRun
namespace Go.Tn
open Go.RowKit

section
variable {κ : Type} {P : Program} {K T E m clk : Nat} {enc : κ → Value} {L : Ents κ} {w : World}
theorem run_clearMap {ty : TypeId} (hT : P.underlying T = some (.map K E)) (hb : w.heap[m]? = some (.map (ents enc L) clk)) :
    (Builtin.clear_ #[T] ty #[.map (some m)]).run P w = .ok (.tuple #[]) (setObjW w m (.map (ents enc ([] : Ents κ)) clk)) := by
  have hund : (underlying T).run P w = .ok (.map K E) w := by simp [underlying, hT]
  have e1 : ∀ (x : TypeId), (#[x] : Array TypeId)[0]? = some x := fun _ => rfl
  have e2 : ∀ (x : Value), (#[x] : Array Value)[0]? = some x := fun _ => rfl
  simp only [Builtin.clear_, e1, e2, Sem.run_bind, hund, Result.andThen_ok, run_getObj hb, run_setObj hb, Sem.run_pure]
  rfl
theorem exec_clearMap {ρ : Operand → Value} {dst : Option Tmp} {ty : TypeId} {pos : String} {after : Array Edge} {g : Option (Nat × Bool)} (hT : P.underlying T = some (.map K E)) (hb : w.heap[m]? = some (.map (ents enc L) clk)) {x : Operand} (hx : ρ x = .map (some m)) :
    (execOp ρ ⟨dst, .call { callee := .builtin .clear, args := #[x], argTypes := #[T] }, ty, pos, after, g⟩).run P w = .ok (.value (.tuple #[])) (setObjW w m (.map (ents enc ([] : Ents κ)) clk)) := by
  simp only [execOp, resolve, invoke, builtin, Sem.run_bind, Sem.run_pure, Result.andThen_ok, List.map_toArray, List.map_cons, List.map_nil, hx, run_clearMap hT hb]
end

/-! ### Many cells of a block -/
def setMany (cur : Array Value) : Nat → List Value → Array Value
  | _, [] => cur
  | o, v :: r => setMany (cur.setIfInBounds o v) (o + 1) r
theorem setMany_size : ∀ (vs : List Value) (o : Nat) (cur : Array Value), (setMany cur o vs).size = cur.size
  | [], _, _ => rfl
  | v :: r, o, cur => by rw [setMany, setMany_size r]; simp
theorem setMany_get : ∀ (vs : List Value) (o : Nat) (cur : Array Value) (i : Nat), i < cur.size → (setMany cur o vs)[i]? = if o ≤ i ∧ i < o + vs.length then vs[i - o]? else cur[i]?
  | [], o, cur, i, _ => by rw [setMany, List.length_nil, if_neg (by omega)]
  | v :: r, o, cur, i, hi => by
    rw [setMany, setMany_get r (o + 1) _ i (by simpa using hi)]
    by_cases h1 : i = o
    · subst h1
      rw [if_neg (by omega), if_pos (by simp)]
      simp [hi]
    · by_cases h2 : o + 1 ≤ i ∧ i < o + 1 + r.length
      · rw [if_pos h2, if_pos (by rw [List.length_cons]; omega), show i - o = (i - (o + 1)) + 1 by omega]
        simp
      · rw [if_neg h2, if_neg (by rw [List.length_cons]; omega)]
        rw [Array.getElem?_setIfInBounds_ne (by omega)]
theorem heap_setCells_at {b : Nat} {T : TypeId} {fr : Nat × Nat} : ∀ (vs : List Value) (o : Nat) (w : World) (cur : Array Value), w.heap[b]? = some (.cells cur T fr) → (w.setCells b o vs).heap[b]? = some (.cells (setMany cur o vs) T fr)
  | [], _, _, _, h => h
  | v :: r, o, w, cur, h => by
    rw [World.setCells, setMany]
    exact heap_setCells_at r (o + 1) _ _ (heap_setCell_at h)
theorem heap_setCells_ne {b c : Nat} (hc : c ≠ b) : ∀ (vs : List Value) (o : Nat) (w : World), (w.setCells b o vs).heap[c]? = w.heap[c]?
  | [], _, _ => rfl
  | v :: r, o, w => by
    rw [World.setCells, heap_setCells_ne hc r]
    exact heap_setCell_ne hc
theorem size_setCells (b : Nat) : ∀ (vs : List Value) (o : Nat) (w : World), (w.setCells b o vs).heap.size = w.heap.size
  | [], _, _ => rfl
  | v :: r, o, w => by rw [World.setCells, size_setCells b r]; simp [World.setCell]
theorem Mod.setCells {S : Nat → Prop} {b : Nat} {a : World} (hS : b < a.heap.size → S b) : ∀ (vs : List Value) (o : Nat) (w : World), Mod S a w → Mod S a (w.setCells b o vs)
  | [], _, _, h => h
  | v :: r, o, w, h => by
    rw [World.setCells]
    exact Mod.setCells hS r (o + 1) _ (h.setCell ⟨b, o, none⟩ v hS)

section
variable {P : Program} {α : Type} {en : α → List Value} {k B : Nat} {e : TypeId} {w : World}

theorem run_storeA {t : TypeId} {b o : Nat} {cs cur : Array Value} {T : TypeId} (hT : AggT P t cs.size) (hb : w.heap[b]? = some (.cells cur T (0, 0))) (ho : o + cs.size ≤ cur.size) (h1 : ∀ v ∈ cs.toList, v.oneCell' = true) :
    (Instr.storeAt t (.pointer (some ⟨b, o, none⟩)) (.agg cs)).run P w = .ok () (w.setCells b o cs.toList) := by
  obtain ⟨⟨d, hu, hd⟩, hi⟩ := hT
  have hst := run_storeCells_cells (P := P) b o cs.toList 0 w (fun j hj => by
    rw [Nat.add_zero]
    have hlt : o + j < cur.size := by simp at hj; omega
    rw [cell_of hb (Array.getElem?_eq_getElem hlt)]
    rfl) (fun j _ => free_of hb) h1
  cases hq : P.info? t with
  | none => simp [hq] at hi
  | some i =>
    have hs : cs.size = i.size := by simp [hq] at hi; omega
    simp [Instr.storeAt, Instr.sureAddr, storeVar, sizeOf, typeInfo, hq, Value.cells, hs, Nat.add_zero] at hst ⊢
    rw [hst]
theorem exec_storeA {ρ : Operand → Value} {dst : Option Tmp} {ty : TypeId} {pos : String} {after : Array Edge} {g : Option (Nat × Bool)} {t : TypeId} {x y : Operand} {b o : Nat} {cs cur : Array Value} {T : TypeId} (hT : AggT P t cs.size) (hx : ρ x = .pointer (some ⟨b, o, none⟩)) (hy : ρ y = .agg cs) (hb : w.heap[b]? = some (.cells cur T (0, 0))) (ho : o + cs.size ≤ cur.size) (h1 : ∀ v ∈ cs.toList, v.oneCell' = true) :
    (execOp ρ ⟨dst, .store t x y, ty, pos, after, g⟩).run P w = .ok .skip (w.setCells b o cs.toList) := by
  simp only [execOp, hx, hy, Sem.run_bind, run_storeA hT hb ho h1, Result.andThen, Sem.run_pure]

theorem LOut.shape {v : Value} {xs : List α} (h : LOut en k e B w v xs) : ∃ a n c, v = .slice a n c := by
  rcases h.own.2 with ⟨hv, _⟩ | ⟨g, cap, cur, hv, _⟩
  · exact ⟨_, _, _, hv⟩
  · exact ⟨_, _, _, hv⟩
/-- What a list in a slice of its own looks like. -/
theorem LOut.whole {b off n cap : Nat} {xs : List α} (h : LOut en k e B w (.slice (some ⟨b, off, none⟩) n cap) xs) : off = 0 ∧ n = xs.length ∧ n ≤ cap ∧ cap ≤ maxLen ∧ ∃ cur, w.heap[b]? = some (.cells cur e (0, 0)) ∧ cur.size = cap * k ∧ cur.toList.take (n * k) = xs.flatMap en ∧ (xs.flatMap en).length = n * k := by
  rcases h.own with ⟨hl, ⟨hv, _⟩ | ⟨g, c, cur, hv, _, hg, h1, h2, h3, h4⟩⟩
  · cases hv
  · obtain ⟨⟨rfl, rfl⟩, hn, rfl⟩ : (b = g ∧ off = 0) ∧ n = xs.length ∧ cap = c := by simpa using hv
    subst hn
    exact ⟨rfl, rfl, h1, h2, cur, hg, h3, h4, hl⟩
theorem LOut.of_cells {b n cap : Nat} {xs : List α} {cur : Array Value} (hn : n = xs.length) (hb : w.heap[b]? = some (.cells cur e (0, 0))) (h1 : n ≤ cap) (h2 : cap ≤ maxLen) (h3 : cur.size = cap * k) (h4 : cur.toList.take (n * k) = xs.flatMap en) (hl : (xs.flatMap en).length = n * k) (hB : B ≤ b) (hBw : B ≤ w.heap.size) : LOut en k e B w (.slice (some ⟨b, 0, none⟩) n cap) xs := by
  subst hn
  exact ⟨⟨hl, .inr ⟨b, cap, cur, rfl, Nat.zero_le _, hb, h1, h2, h3, h4⟩⟩, fun r hr => by cases hr; exact hB, hBw⟩
theorem flat_len (hen : ∀ x, (en x).length = k) : ∀ xs : List α, (xs.flatMap en).length = xs.length * k
  | [] => by simp
  | x :: xs => by rw [List.flatMap_cons, List.length_append, hen, flat_len hen xs, List.length_cons, Nat.add_mul, Nat.one_mul, Nat.add_comm]
theorem flat_take (hen : ∀ x, (en x).length = k) : ∀ (xs : List α) (i : Nat), (xs.take i).flatMap en = (xs.flatMap en).take (i * k)
  | [], i => by simp
  | x :: xs, 0 => by simp
  | x :: xs, i + 1 => by
    rw [List.take_succ_cons, List.flatMap_cons, List.flatMap_cons, flat_take hen xs i, List.take_append, hen, show (i + 1) * k - k = i * k by rw [Nat.add_mul, Nat.one_mul, Nat.add_sub_cancel], List.take_of_length_le (l := en x) (by rw [hen, Nat.add_mul, Nat.one_mul]; exact Nat.le_add_left _ _)]
/-- One element stored. -/
theorem LOut.setA (hen : ∀ x, (en x).length = k) {b n cap : Nat} {xs : List α} (h : LOut en k e B w (.slice (some ⟨b, 0, none⟩) n cap) xs) {i : Nat} (hi : i < xs.length) (x : α) :
    LOut en k e B (w.setCells b (i * k) (en x)) (.slice (some ⟨b, 0, none⟩) n cap) (xs.set i x) := by
  obtain ⟨_, hn, h1, h2, cur, hb, h3, h4, hl⟩ := h.whole
  have hB : B ≤ b := h.lo b rfl
  have hik : i * k + k ≤ n * k := by
    have : (i + 1) * k ≤ n * k := Nat.mul_le_mul_right k (by omega)
    rw [Nat.add_mul, Nat.one_mul] at this
    exact this
  have hnc : n * k ≤ cap * k := Nat.mul_le_mul_right k h1
  have hl2 : ((xs.set i x).flatMap en).length = n * k := by rw [flat_len hen, List.length_set, hn]
  refine LOut.of_cells (by rw [List.length_set]; exact hn) (heap_setCells_at _ _ _ _ hb) h1 h2 (by rw [setMany_size]; exact h3) ?_ hl2 hB (by rw [size_setCells]; exact h.le)
  apply List.ext_getElem?
  intro j
  by_cases hj : j < n * k
  · rw [List.getElem?_take_of_lt hj]
    have hjc : j < cur.size := by omega
    rw [show (setMany cur (i * k) (en x)).toList[j]? = (setMany cur (i * k) (en x))[j]? by simp, setMany_get _ _ _ _ hjc, hen]
    have hold : cur[j]? = (xs.flatMap en)[j]? := by
      rw [← h4, List.getElem?_take_of_lt hj]; simp
    have hsplit : (xs.set i x).flatMap en = (xs.take i).flatMap en ++ (en x ++ (xs.drop (i + 1)).flatMap en) := by
      rw [List.set_eq_take_append_cons_drop, if_pos hi, List.flatMap_append, List.flatMap_cons]
    have hsplit0 : xs.flatMap en = (xs.take i).flatMap en ++ (en xs[i] ++ (xs.drop (i + 1)).flatMap en) := by
      conv => lhs; rw [← List.take_append_drop i xs, List.drop_eq_getElem_cons hi]
      rw [List.flatMap_append, List.flatMap_cons]
    have hlt : ((xs.take i).flatMap en).length = i * k := by rw [flat_len hen, List.length_take, Nat.min_eq_left (by omega)]
    rw [hsplit]
    by_cases c1 : j < i * k
    · rw [if_neg (by omega), hold, hsplit0, List.getElem?_append_left (by omega), List.getElem?_append_left (by omega)]
    · by_cases c2 : j < i * k + k
      · rw [if_pos (by omega), List.getElem?_append_right (by omega), hlt, List.getElem?_append_left (by rw [hen]; omega)]
      · rw [if_neg (by omega), hold, hsplit0, List.getElem?_append_right (by omega), List.getElem?_append_right (by rw [hen]; omega), List.getElem?_append_right (by omega), List.getElem?_append_right (by rw [hen]; omega), hen, hen]
  · rw [List.getElem?_eq_none (by rw [List.length_take]; omega), List.getElem?_eq_none (by omega)]
/-- The end cut off and cleared. -/
theorem LOut.cut (hen : ∀ x, (en x).length = k) {b n cap : Nat} {xs : List α} (h : LOut en k e B w (.slice (some ⟨b, 0, none⟩) n cap) xs) {i : Nat} (hi : i ≤ xs.length) (vs : List Value) :
    LOut en k e B (w.setCells b (i * k) vs) (.slice (some ⟨b, 0, none⟩) i cap) (xs.take i) := by
  obtain ⟨_, hn, h1, h2, cur, hb, h3, h4, hl⟩ := h.whole
  have hB : B ≤ b := h.lo b rfl
  have hik : i * k ≤ n * k := Nat.mul_le_mul_right k (by omega)
  have hnc : n * k ≤ cap * k := Nat.mul_le_mul_right k h1
  have hlen : (xs.take i).length = i := by rw [List.length_take, Nat.min_eq_left hi]
  have hl2 : ((xs.take i).flatMap en).length = i * k := by rw [flat_len hen, hlen]
  refine LOut.of_cells hlen.symm (heap_setCells_at _ _ _ _ hb) (by omega) h2 (by rw [setMany_size]; exact h3) ?_ hl2 hB (by rw [size_setCells]; exact h.le)
  rw [flat_take hen]
  apply List.ext_getElem?
  intro j
  by_cases hj : j < i * k
  · rw [List.getElem?_take_of_lt hj, List.getElem?_take_of_lt hj]
    rw [show (setMany cur (i * k) vs).toList[j]? = (setMany cur (i * k) vs)[j]? by simp, setMany_get _ _ _ _ (by omega), if_neg (by omega)]
    rw [← h4, List.getElem?_take_of_lt (by omega)]
    simp
  · rw [List.getElem?_eq_none (by rw [List.length_take]; omega), List.getElem?_eq_none (by rw [List.length_take]; omega)]

theorem zeroCells_len (zs : Array Value) (n : Nat) : (Builtin.zeroCells zs n).size = n * zs.size := by
  unfold Builtin.zeroCells
  simp
/-- clear of the end of such a slice. -/
theorem run_clearSl {t ty : TypeId} {z : Value} (ht : P.underlying t = some (.slice e)) (hz : ∀ w, (zeroValue e).run P w = .ok z w) (hzs : z.cells.size = k) (hz1 : ∀ n, ∀ v ∈ (Builtin.zeroCells z.cells n).toList, v.oneCell' = true) {b o n c : Nat} {cur : Array Value} {T : TypeId} (hb : w.heap[b]? = some (.cells cur T (0, 0))) (ho : o + n * k ≤ cur.size) (hn : 0 < n) :
    (Builtin.clear_ #[t] ty #[.slice (some ⟨b, o, none⟩) n c]).run P w = .ok (.tuple #[]) (w.setCells b o (Builtin.zeroCells z.cells n).toList) := by
  have hst := run_storeCells_cells (P := P) b o (Builtin.zeroCells z.cells n).toList 0 w (fun j hj => by
    rw [Nat.add_zero]
    have hlt : o + j < cur.size := by rw [Array.length_toList, zeroCells_len, hzs] at hj; omega
    rw [cell_of hb (Array.getElem?_eq_getElem hlt)]
    rfl) (fun j _ => free_of hb) (hz1 n)
  simp only [Nat.add_zero] at hst
  obtain ⟨m, rfl⟩ : ∃ m, n = m + 1 := ⟨n - 1, by omega⟩
  simp [Builtin.clear_, run_underlying ht, hz, hst]
theorem exec_clearSl {ρ : Operand → Value} {dst : Option Tmp} {ty : TypeId} {pos : String} {after : Array Edge} {g : Option (Nat × Bool)} {t : TypeId} {x : Operand} {z : Value} (ht : P.underlying t = some (.slice e)) (hz : ∀ w, (zeroValue e).run P w = .ok z w) (hzs : z.cells.size = k) (hz1 : ∀ n, ∀ v ∈ (Builtin.zeroCells z.cells n).toList, v.oneCell' = true) {b o n c : Nat} {cur : Array Value} {T : TypeId} (hx : ρ x = .slice (some ⟨b, o, none⟩) n c) (hb : w.heap[b]? = some (.cells cur T (0, 0))) (ho : o + n * k ≤ cur.size) (hn : 0 < n) :
    (execOp ρ ⟨dst, .call { callee := .builtin .clear, args := #[x], argTypes := #[t] }, ty, pos, after, g⟩).run P w = .ok (.value (.tuple #[])) (w.setCells b o (Builtin.zeroCells z.cells n).toList) := by
  simp only [execOp, resolve, invoke, builtin, Sem.run_bind, Sem.run_pure, Result.andThen_ok, List.map_toArray, List.map_cons, List.map_nil, hx, run_clearSl ht hz hzs hz1 hb ho hn]
end
end Go.Tn
