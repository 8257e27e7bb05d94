/- Bits that are read: no program. -/
import Derived.Test.YtmakpbjknklpiaaGreatMgRpl3
import Derived.Laws.IdiomCopy
import Derived.Lib.SliceRun
import Derived.Laws.Tables
import Derived.Great.BuildSlice
import Derived.Laws.Cover3
import Derived.Test.YtmakpbjknklpiaaGreatMgRpl2
import Derived.Laws.Shifts
import Derived.Test.YtmakpbjknklpiaaGreatMgRpl1
/- clear of a map, of the end of a slice; a struct stored into a slice's element. No program. -/
namespace Go.Tn
open Go.RowKit

section
variable {κ : Type} {P : Program} {K T E m clk : Nat} {enc : κ → Value} {L : Ents κ} {w : World}
theorem run_clearMap {ty : TypeId} (hT : P.underlying T = some (.map K E)) (hb : w.heap[m]? = some (.map (ents enc L) clk)) :
    (Builtin.clear_ #[T] ty #[.map (some m)]).run P w = .ok (.tuple #[]) (setObjW w m (.map (ents enc ([] : Ents κ)) clk)) := by
  have hund : (underlying T).run P w = .ok (.map K E) w := by simp [underlying, hT]
  have e1 : ∀ (x : TypeId), (#[x] : Array TypeId)[0]? = some x := fun _ => rfl
  have e2 : ∀ (x : Value), (#[x] : Array Value)[0]? = some x := fun _ => rfl
  simp only [Builtin.clear_, e1, e2, Sem.run_bind, hund, Result.andThen_ok, run_getObj hb, run_setObj hb, Sem.run_pure]
  rfl
theorem exec_clearMap {ρ : Operand → Value} {dst : Option Tmp} {ty : TypeId} {pos : String} {after : Array Edge} {g : Option (Nat × Bool)} (hT : P.underlying T = some (.map K E)) (hb : w.heap[m]? = some (.map (ents enc L) clk)) {x : Operand} (hx : ρ x = .map (some m)) :
    (execOp ρ ⟨dst, .call { callee := .builtin .clear, args := #[x], argTypes := #[T] }, ty, pos, after, g⟩).run P w = .ok (.value (.tuple #[])) (setObjW w m (.map (ents enc ([] : Ents κ)) clk)) := by
  simp only [execOp, resolve, invoke, builtin, Sem.run_bind, Sem.run_pure, Result.andThen_ok, List.map_toArray, List.map_cons, List.map_nil, hx, run_clearMap hT hb]
end

/-! ### Many cells of a block -/
def setMany (cur : Array Value) : Nat → List Value → Array Value
  | _, [] => cur
  | o, v :: r => setMany (cur.setIfInBounds o v) (o + 1) r
theorem setMany_size : ∀ (vs : List Value) (o : Nat) (cur : Array Value), (setMany cur o vs).size = cur.size
  | [], _, _ => rfl
  | v :: r, o, cur => by rw [setMany, setMany_size r]; simp
theorem setMany_get : ∀ (vs : List Value) (o : Nat) (cur : Array Value) (i : Nat), i < cur.size → (setMany cur o vs)[i]? = if o ≤ i ∧ i < o + vs.length then vs[i - o]? else cur[i]?
  | [], o, cur, i, _ => by rw [setMany, List.length_nil, if_neg (by omega)]
  | v :: r, o, cur, i, hi => by
    rw [setMany, setMany_get r (o + 1) _ i (by simpa using hi)]
    by_cases h1 : i = o
    · subst h1
      rw [if_neg (by omega), if_pos (by simp)]
      simp [hi]
    · by_cases h2 : o + 1 ≤ i ∧ i < o + 1 + r.length
      · rw [if_pos h2, if_pos (by rw [List.length_cons]; omega), show i - o = (i - (o + 1)) + 1 by omega]
        simp
      · rw [if_neg h2, if_neg (by rw [List.length_cons]; omega)]
        rw [Array.getElem?_setIfInBounds_ne (by omega)]
theorem heap_setCells_at {b : Nat} {T : TypeId} {fr : Nat × Nat} : ∀ (vs : List Value) (o : Nat) (w : World) (cur : Array Value), w.heap[b]? = some (.cells cur T fr) → (w.setCells b o vs).heap[b]? = some (.cells (setMany cur o vs) T fr)
  | [], _, _, _, h => h
  | v :: r, o, w, cur, h => by
    rw [World.setCells, setMany]
    exact heap_setCells_at r (o + 1) _ _ (heap_setCell_at h)
theorem size_setCells (b : Nat) : ∀ (vs : List Value) (o : Nat) (w : World), (w.setCells b o vs).heap.size = w.heap.size
  | [], _, _ => rfl
  | v :: r, o, w => by rw [World.setCells, size_setCells b r]; simp [World.setCell]
theorem Mod.setCells {S : Nat → Prop} {b : Nat} {a : World} (hS : b < a.heap.size → S b) : ∀ (vs : List Value) (o : Nat) (w : World), Mod S a w → Mod S a (w.setCells b o vs)
  | [], _, _, h => h
  | v :: r, o, w, h => by
    rw [World.setCells]
    exact Mod.setCells hS r (o + 1) _ (h.setCell ⟨b, o, none⟩ v hS)
section
variable {P : Program} {α : Type} {en : α → List Value} {k B : Nat} {e : TypeId} {w : World}

theorem run_storeA {t : TypeId} {b o : Nat} {cs cur : Array Value} {T : TypeId} (hT : AggT P t cs.size) (hb : w.heap[b]? = some (.cells cur T (0, 0))) (ho : o + cs.size ≤ cur.size) (h1 : ∀ v ∈ cs.toList, v.oneCell' = true) :
    (Instr.storeAt t (.pointer (some ⟨b, o, none⟩)) (.agg cs)).run P w = .ok () (w.setCells b o cs.toList) := by
  obtain ⟨⟨d, hu, hd⟩, hi⟩ := hT
  have hst := run_storeCells_cells (P := P) b o cs.toList 0 w (fun j hj => by
    rw [Nat.add_zero]
    have hlt : o + j < cur.size := by simp at hj; omega
    rw [cell_of hb (Array.getElem?_eq_getElem hlt)]
    rfl) (fun j _ => free_of hb) h1
  cases hq : P.info? t with
  | none => simp [hq] at hi
  | some i =>
    have hs : cs.size = i.size := by simp [hq] at hi; omega
    simp [Instr.storeAt, Instr.sureAddr, storeVar, sizeOf, typeInfo, hq, Value.cells, hs, Nat.add_zero] at hst ⊢
    rw [hst]
theorem exec_storeA {ρ : Operand → Value} {dst : Option Tmp} {ty : TypeId} {pos : String} {after : Array Edge} {g : Option (Nat × Bool)} {t : TypeId} {x y : Operand} {b o : Nat} {cs cur : Array Value} {T : TypeId} (hT : AggT P t cs.size) (hx : ρ x = .pointer (some ⟨b, o, none⟩)) (hy : ρ y = .agg cs) (hb : w.heap[b]? = some (.cells cur T (0, 0))) (ho : o + cs.size ≤ cur.size) (h1 : ∀ v ∈ cs.toList, v.oneCell' = true) :
    (execOp ρ ⟨dst, .store t x y, ty, pos, after, g⟩).run P w = .ok .skip (w.setCells b o cs.toList) := by
  simp only [execOp, hx, hy, Sem.run_bind, run_storeA hT hb ho h1, Result.andThen, Sem.run_pure]
theorem LOut.shape {v : Value} {xs : List α} (h : LOut en k e B w v xs) : ∃ a n c, v = .slice a n c := by
  rcases h.own.2 with ⟨hv, _⟩ | ⟨g, cap, cur, hv, _⟩
  · exact ⟨_, _, _, hv⟩
  · exact ⟨_, _, _, hv⟩
/-- What a list in a slice of its own looks like. -/
theorem LOut.whole {b off n cap : Nat} {xs : List α} (h : LOut en k e B w (.slice (some ⟨b, off, none⟩) n cap) xs) : off = 0 ∧ n = xs.length ∧ n ≤ cap ∧ cap ≤ maxLen ∧ ∃ cur, w.heap[b]? = some (.cells cur e (0, 0)) ∧ cur.size = cap * k ∧ cur.toList.take (n * k) = xs.flatMap en ∧ (xs.flatMap en).length = n * k := by
  rcases h.own with ⟨hl, ⟨hv, _⟩ | ⟨g, c, cur, hv, _, hg, h1, h2, h3, h4⟩⟩
  · cases hv
  · obtain ⟨⟨rfl, rfl⟩, hn, rfl⟩ : (b = g ∧ off = 0) ∧ n = xs.length ∧ cap = c := by simpa using hv
    subst hn
    exact ⟨rfl, rfl, h1, h2, cur, hg, h3, h4, hl⟩
theorem LOut.of_cells {b n cap : Nat} {xs : List α} {cur : Array Value} (hn : n = xs.length) (hb : w.heap[b]? = some (.cells cur e (0, 0))) (h1 : n ≤ cap) (h2 : cap ≤ maxLen) (h3 : cur.size = cap * k) (h4 : cur.toList.take (n * k) = xs.flatMap en) (hl : (xs.flatMap en).length = n * k) (hB : B ≤ b) (hBw : B ≤ w.heap.size) : LOut en k e B w (.slice (some ⟨b, 0, none⟩) n cap) xs := by
  subst hn
  exact ⟨⟨hl, .inr ⟨b, cap, cur, rfl, Nat.zero_le _, hb, h1, h2, h3, h4⟩⟩, fun r hr => by cases hr; exact hB, hBw⟩
theorem flat_len (hen : ∀ x, (en x).length = k) : ∀ xs : List α, (xs.flatMap en).length = xs.length * k
  | [] => by simp
  | x :: xs => by rw [List.flatMap_cons, List.length_append, hen, flat_len hen xs, List.length_cons, Nat.add_mul, Nat.one_mul, Nat.add_comm]
theorem flat_take (hen : ∀ x, (en x).length = k) : ∀ (xs : List α) (i : Nat), (xs.take i).flatMap en = (xs.flatMap en).take (i * k)
  | [], i => by simp
  | x :: xs, 0 => by simp
  | x :: xs, i + 1 => by
    rw [List.take_succ_cons, List.flatMap_cons, List.flatMap_cons, flat_take hen xs i, List.take_append, hen, show (i + 1) * k - k = i * k by rw [Nat.add_mul, Nat.one_mul, Nat.add_sub_cancel], List.take_of_length_le (l := en x) (by rw [hen, Nat.add_mul, Nat.one_mul]; exact Nat.le_add_left _ _)]
/-- One element stored. -/
theorem LOut.setA (hen : ∀ x, (en x).length = k) {b n cap : Nat} {xs : List α} (h : LOut en k e B w (.slice (some ⟨b, 0, none⟩) n cap) xs) {i : Nat} (hi : i < xs.length) (x : α) :
    LOut en k e B (w.setCells b (i * k) (en x)) (.slice (some ⟨b, 0, none⟩) n cap) (xs.set i x) := by
  obtain ⟨_, hn, h1, h2, cur, hb, h3, h4, hl⟩ := h.whole
  have hB : B ≤ b := h.lo b rfl
  have hik : i * k + k ≤ n * k := by
    have : (i + 1) * k ≤ n * k := Nat.mul_le_mul_right k (by omega)
    rw [Nat.add_mul, Nat.one_mul] at this
    exact this
  have hnc : n * k ≤ cap * k := Nat.mul_le_mul_right k h1
  have hl2 : ((xs.set i x).flatMap en).length = n * k := by rw [flat_len hen, List.length_set, hn]
  refine LOut.of_cells (by rw [List.length_set]; exact hn) (heap_setCells_at _ _ _ _ hb) h1 h2 (by rw [setMany_size]; exact h3) ?_ hl2 hB (by rw [size_setCells]; exact h.le)
  apply List.ext_getElem?
  intro j
  by_cases hj : j < n * k
  · rw [List.getElem?_take_of_lt hj]
    have hjc : j < cur.size := by omega
    rw [show (setMany cur (i * k) (en x)).toList[j]? = (setMany cur (i * k) (en x))[j]? by simp, setMany_get _ _ _ _ hjc, hen]
    have hold : cur[j]? = (xs.flatMap en)[j]? := by
      rw [← h4, List.getElem?_take_of_lt hj]; simp
    have hsplit : (xs.set i x).flatMap en = (xs.take i).flatMap en ++ (en x ++ (xs.drop (i + 1)).flatMap en) := by
      rw [List.set_eq_take_append_cons_drop, if_pos hi, List.flatMap_append, List.flatMap_cons]
    have hsplit0 : xs.flatMap en = (xs.take i).flatMap en ++ (en xs[i] ++ (xs.drop (i + 1)).flatMap en) := by
      conv => lhs; rw [← List.take_append_drop i xs, List.drop_eq_getElem_cons hi]
      rw [List.flatMap_append, List.flatMap_cons]
    have hlt : ((xs.take i).flatMap en).length = i * k := by rw [flat_len hen, List.length_take, Nat.min_eq_left (by omega)]
    rw [hsplit]
    by_cases c1 : j < i * k
    · rw [if_neg (by omega), hold, hsplit0, List.getElem?_append_left (by omega), List.getElem?_append_left (by omega)]
    · by_cases c2 : j < i * k + k
      · rw [if_pos (by omega), List.getElem?_append_right (by omega), hlt, List.getElem?_append_left (by rw [hen]; omega)]
      · rw [if_neg (by omega), hold, hsplit0, List.getElem?_append_right (by omega), List.getElem?_append_right (by rw [hen]; omega), List.getElem?_append_right (by omega), List.getElem?_append_right (by rw [hen]; omega), hen, hen]
  · rw [List.getElem?_eq_none (by rw [List.length_take]; omega), List.getElem?_eq_none (by omega)]
/-- The end cut off and cleared. -/
theorem LOut.cut (hen : ∀ x, (en x).length = k) {b n cap : Nat} {xs : List α} (h : LOut en k e B w (.slice (some ⟨b, 0, none⟩) n cap) xs) {i : Nat} (hi : i ≤ xs.length) (vs : List Value) :
    LOut en k e B (w.setCells b (i * k) vs) (.slice (some ⟨b, 0, none⟩) i cap) (xs.take i) := by
  obtain ⟨_, hn, h1, h2, cur, hb, h3, h4, hl⟩ := h.whole
  have hB : B ≤ b := h.lo b rfl
  have hik : i * k ≤ n * k := Nat.mul_le_mul_right k (by omega)
  have hnc : n * k ≤ cap * k := Nat.mul_le_mul_right k h1
  have hlen : (xs.take i).length = i := by rw [List.length_take, Nat.min_eq_left hi]
  have hl2 : ((xs.take i).flatMap en).length = i * k := by rw [flat_len hen, hlen]
  refine LOut.of_cells hlen.symm (heap_setCells_at _ _ _ _ hb) (by omega) h2 (by rw [setMany_size]; exact h3) ?_ hl2 hB (by rw [size_setCells]; exact h.le)
  rw [flat_take hen]
  apply List.ext_getElem?
  intro j
  by_cases hj : j < i * k
  · rw [List.getElem?_take_of_lt hj, List.getElem?_take_of_lt hj]
    rw [show (setMany cur (i * k) vs).toList[j]? = (setMany cur (i * k) vs)[j]? by simp, setMany_get _ _ _ _ (by omega), if_neg (by omega)]
    rw [← h4, List.getElem?_take_of_lt (by omega)]
    simp
  · rw [List.getElem?_eq_none (by rw [List.length_take]; omega), List.getElem?_eq_none (by rw [List.length_take]; omega)]
end
end Go.Tn

/- Structs of many cells: built, laid in new memory. No program. -/
namespace Go.Tn
open Go.RowKit
variable {P : Program} {ops : Array Oper} {rest : List Oper} {a : Act} {w : World} {Q : Exit → Act → World → Prop}

theorem foldl_lay (off : Nat) : ∀ (v : List Value) (j : Nat) (cells : List Value), off + j + v.length ≤ cells.length →
    ((v.zipIdx j).foldl (fun (cs : Array Value) (x : Value × Nat) => cs.setIfInBounds (off + x.2) x.1) cells.toArray) = (cells.take (off + j) ++ v ++ cells.drop (off + j + v.length)).toArray
  | [], j, cells, _ => by simp
  | x :: v, j, cells, h => by
    rw [List.length_cons] at h
    have e : cells.toArray.setIfInBounds (off + j) x = (cells.set (off + j) x).toArray := by simp
    simp only [List.zipIdx_cons, List.foldl_cons, e]
    rw [foldl_lay off v (j + 1) _ (by rw [List.length_set]; omega)]
    congr 1
    have h1 : (cells.set (off + j) x).take (off + (j + 1)) = cells.take (off + j) ++ [x] := by
      rw [← Nat.add_assoc, List.take_add_one, List.take_set_of_le (Nat.le_refl _), List.getElem?_set_self (by omega)]
      rfl
    rw [h1, List.drop_set_of_lt (by omega), List.length_cons]
    simp only [List.append_assoc, List.cons_append, List.nil_append]
    rw [show off + (j + 1) + v.length = off + j + (v.length + 1) by omega]
theorem fill_all {k : Nat} {cells cs : Array Value} {place : Nat → Option (Nat × Nat)} (hp : place 0 = some (0, k)) (hc : cells.size = k) (hs : cs.size = k) : Instr.fill place cells [(0, .agg cs)] = some cs := by
  have h := foldl_lay 0 cs.toList 0 cells.toList (by simp; omega)
  have e : ((Value.agg cs).cells.zipIdx.foldl (fun (xs : Array Value) (x : Value × Nat) => xs.setIfInBounds (0 + x.2) x.1) cells) = cs := by
    rw [← Array.foldl_toList, Array.toList_zipIdx]
    refine Eq.trans h ?_
    apply Array.ext'
    simp [List.drop_of_length_le, hc, hs]
  have hsz : (Value.agg cs).cells.size = k := hs
  simp only [Instr.fill, hp]
  rw [if_neg (by simp [hsz, hc])]
  exact congrArg some e
/-- '[n]T(s)': where the elements lie. -/
theorem exec_arrayAt {ρ : Operand → Value} {dst : Option Tmp} {ty : TypeId} {pos : String} {after : Array Edge} {g : Option (Nat × Bool)} {t e : TypeId} {n len cap : Nat} {ao : Option Addr} {x : Operand} (hu : P.underlying t = some (.array n e)) (hn : n ≤ len) (hx : ρ x = .slice ao len cap) :
    (execOp ρ ⟨dst, .sliceToArrayPointer t x, ty, pos, after, g⟩).run P w = .ok (.value (.pointer ao)) w := by
  simp only [execOp, hx, Sem.run_bind, run_arrayAt w t e n ao len cap hu hn, Result.andThen_ok, Sem.run_pure]
/-- 'T{..}' -/
theorem exec_buildA {ρ : Operand → Value} {dst : Option Tmp} {ty : TypeId} {pos : String} {after : Array Edge} {g : Option (Nat × Bool)} {t : TypeId} {parts : Array (Nat × Operand)} {vals : List (Nat × Value)} {cells : Array Value} (hp : parts.toList.map (fun x => (x.1, ρ x.2)) = vals) (hb : P.built t vals = some cells) :
    (execOp ρ ⟨dst, .build t parts, ty, pos, after, g⟩).run P w = .ok (.value (.agg cells)) w :=
  exec_build (vals := vals.toArray) hp (run_build w t _ cells hb)
/-- '[]T{x}' -/
theorem exec_buildSliceA {ρ : Operand → Value} {dst : Option Tmp} {ty : TypeId} {pos : String} {after : Array Edge} {g : Option (Nat × Bool)} {t e : TypeId} {k : Nat} {cells : Array Value} {x : Operand} (hu : P.underlying t = some (.slice e)) (hi : (P.info? e).map (fun i => (i.zero.map (fun z => z.cells.size), i.size)) = some (some k, k)) (hk : 0 < k) (hk2 : k ≤ 1000) (hc : cells.size = k) (hx : ρ x = .agg cells) :
    (execOp ρ ⟨dst, .buildSlice t 1 #[(0, x)], ty, pos, after, g⟩).run P w = .ok (.value (.slice (some ⟨w.heap.size, 0, none⟩) 1 1)) (w.alloc (.cells cells e)) := by
  cases hq : P.info? e with
  | none => simp [hq] at hi
  | some i =>
    cases hz : i.zero with
    | none => simp [hq, hz] at hi
    | some z =>
      simp [hq, hz] at hi
      obtain ⟨h1, h2⟩ := hi
      refine exec_buildSlice (vals := #[(0, .agg cells)]) (by simp [hx]) (run_buildSlice w t e 1 _ cells i z hu hq hz (by omega) (by omega) ?_)
      exact fill_all (k := k) (by simp [h2]) (by simp [h2]) hc
/-- A struct's type, with its zero. -/
structure AggZ (P : Program) (t : TypeId) (n : Nat) : Prop extends AggT P t n where
  zero : ∃ i z, P.info? t = some i ∧ i.zero = some z ∧ z.cells.size = n
/-- 'append(s, x)', with what it leaves alone. -/
theorem wpList_append1Y {α : Type} {en : α → List Value} {k : Nat} {e t : TypeId} (E : ElT P t e k en) {B : Nat} {w wx : World} {v : Value} {xs : List α} (h : LOut en k e B w v xs) (x : α) (hsz : xs.length ≤ 1000000000) {dst : Option Tmp} {ty : TypeId} {pos : String} {after : Array Edge} {s y : Operand}
    (hwx : wx = w.alloc (.cells (en x).toArray e)) (hs : a.eval s = v) (hy : a.eval y = .slice (some ⟨w.heap.size, 0, none⟩) 1 1)
    (hk : ∀ v' w', LOut en k e B w' v' (xs ++ [x]) → Mod (fun b => v.ownBlock = some b) w w' → (v'.ownBlock = v.ownBlock ∨ ∃ r, v'.ownBlock = some r ∧ w.heap.size ≤ r) → wpList P ops Q rest (a.put dst v') w') :
    wpList P ops Q ({ dst := dst, op := .call { callee := .builtin .append, args := #[s, y], argTypes := #[t, t] }, type := ty, pos := pos, after := after, guard := none } :: rest) a wx := by
  subst hwx
  obtain ⟨v', w', hr, ho, hg, hb⟩ := run_appendMX E (ty := ty) (h.below (((Below.refl _ _).alloc (Nat.le_refl _) _) : Below w.heap.size w (w.alloc (.cells (en x).toArray e)))) (LSl.lit E.len e) (by simp; omega)
  refine wpList_exec rfl (v := v') (w' := w') ?_ (hk v' w' ho (((Mod.refl _ w).alloc _).grown hg fun k hk _ => hk) (hb.imp id fun hb => ⟨_, hb, by simp⟩))
  simp only [execOp, resolve, invoke, builtin, Sem.run_bind, Sem.run_pure, Result.andThen_ok, List.map_toArray, List.map_cons, List.map_nil, hs, hy, hr]
theorem exec_append1Y {α : Type} {en : α → List Value} {k : Nat} {e t ty : TypeId} (E : ElT P t e k en) {B : Nat} {w : World} {v : Value} {xs : List α} (h : LOut en k e B w v xs) (x : α) (hsz : xs.length ≤ 1000000000) :
    ∃ v' w', (∀ (ρ : Operand → Value) (dst : Option Tmp) (pos : String) (after : Array Edge) (g : Option (Nat × Bool)) (s y : Operand), ρ s = v → ρ y = .slice (some ⟨w.heap.size, 0, none⟩) 1 1 →
      (execOp ρ ⟨dst, .call { callee := .builtin .append, args := #[s, y], argTypes := #[t, t] }, ty, pos, after, g⟩).run P (w.alloc (.cells (en x).toArray e)) = .ok (.value v') w') ∧
      LOut en k e B w' v' (xs ++ [x]) ∧ Mod (fun b => v.ownBlock = some b) w w' ∧ (v'.ownBlock = v.ownBlock ∨ ∃ r, v'.ownBlock = some r ∧ w.heap.size ≤ r) := by
  obtain ⟨v', w', hr, ho, hg, hb⟩ := run_appendMX E (ty := ty) (h.below (((Below.refl _ _).alloc (Nat.le_refl _) _) : Below w.heap.size w (w.alloc (.cells (en x).toArray e)))) (LSl.lit E.len e) (by simp; omega)
  refine ⟨v', w', fun ρ dst pos after g s y hs hy => ?_, ho, ((Mod.refl _ w).alloc _).grown hg fun k hk _ => hk, hb.imp id fun hb => ⟨_, hb, by simp⟩⟩
  simp only [execOp, resolve, invoke, builtin, Sem.run_bind, Sem.run_pure, Result.andThen_ok, List.map_toArray, List.map_cons, List.map_nil, hs, hy, hr]
/-- 'make([]T, n)', elements of some cells each. -/
theorem exec_makeA {α : Type} {en : α → List Value} {k : Nat} {e t : TypeId} (E : ElT P t e k en) (x0 : α) (hz : (P.info? e).map (fun i => i.zero.map (·.cells)) = some (some (en x0).toArray)) (n : Nat) (hn : n ≤ 1000000000) (w : World) :
    ∃ w', (∀ (ρ : Operand → Value) (dst : Option Tmp) (ty : TypeId) (pos : String) (after : Array Edge) (g : Option (Nat × Bool)) (x y : Operand), ρ x = .int .i64 n → ρ y = .int .i64 n →
      (execOp ρ ⟨dst, .makeSlice t x y, ty, pos, after, g⟩).run P w = .ok (.value (.slice (some ⟨w.heap.size, 0, none⟩) n n)) w') ∧ LOut en k e w.heap.size w' (.slice (some ⟨w.heap.size, 0, none⟩) n n) (List.replicate n x0) ∧ Below w.heap.size w w' ∧ w'.heap.size = w.heap.size + 1 := by
  cases hq : P.info? e with
  | none => simp [hq] at hz
  | some i =>
    cases hzz : i.zero with
    | none => simp [hq, hzz] at hz
    | some z =>
      have hzc : z.cells = (en x0).toArray := by simpa [hq, hzz] using hz
      have hI := E.info
      simp only [hq, hzz, Option.map_some] at hI
      obtain ⟨_, hI⟩ := Prod.mk.inj (Option.some.inj hI)
      obtain ⟨hsize, hby⟩ := Prod.mk.inj hI
      have hby' : i.bytes ≤ 1000 := of_decide_eq_true hby
      have hpos := E.pos
      have hb : i.bytes * n ≤ 281474976710656 := by
        have : i.bytes * n ≤ 1000 * 1000000000 := Nat.mul_le_mul hby' hn
        omega
      have hb' : (i.bytes : Int) * (n : Int) ≤ 281474976710656 := by
        have h : ((i.bytes * n : Nat) : Int) ≤ 281474976710656 := by omega
        rwa [Int.natCast_mul] at h
      have hr := run_make (P := P) w t e i z E.sl hq hzz .i64 .i64 n n (by omega) (Int.le_refl _) hb' (by omega)
      simp only [Int.toNat_natCast, hsize] at hr
      refine ⟨w.alloc (.cells (madeCells z.cells (n * k)) e), fun ρ dst ty pos after g x y hx hy => ?_, ?_, (Below.refl _ _).alloc (Nat.le_refl _) _, by simp⟩
      · simp only [execOp, hx, hy, Sem.run_bind, hr, Result.andThen_ok, Sem.run_pure]
      · refine LOut.of_cells (cur := madeCells z.cells (n * k)) (by rw [List.length_replicate]) heap_alloc_at (Nat.le_refl _) (by unfold maxLen; omega) (size_madeCells _ _) ?_ (by rw [len_flatMap E.len, List.length_replicate]) (Nat.le_refl _) (by simp)
        have hl := len_flatMap E.len (List.replicate n x0)
        rw [List.length_replicate] at hl
        apply List.ext_getElem?
        intro j
        rw [List.take_of_length_le (by simp [size_madeCells])]
        by_cases hj : j < n * k
        · have hdm : j / k * k + j % k = j := by rw [Nat.mul_comm]; exact Nat.div_add_mod j k
          have hjk : j / k < n := Nat.div_lt_of_lt_mul (by rw [Nat.mul_comm]; exact hj)
          have hm : j % k < k := Nat.mod_lt _ hpos
          have h1 := get_flatMap E.len (List.replicate n x0) (j / k) (j % k) x0 (by simp [hjk]) hm
          rw [hdm] at h1
          rw [h1]
          have hzs : z.cells.size = k := by rw [hzc]; simp [E.len]
          have hm' : j % k < (en x0).length := by rw [E.len]; exact hm
          have hg : (madeCells z.cells (n * k))[j]? = some (z.cells[j % z.cells.size]!) := by simp [madeCells, hj]
          rw [Array.getElem?_toList, hg, hzs, List.getElem?_eq_getElem hm', hzc]
          simp [hm']
        · rw [List.getElem?_eq_none (by simp [size_madeCells]; omega), List.getElem?_eq_none (by rw [hl]; omega)]
theorem LOut.lies {α : Type} {en : α → List Value} {k : Nat} {e : TypeId} (hen : ∀ x, (en x).length = k) {B : Nat} {r n cap : Nat} {xs : List α} (h : LOut en k e B w (.slice (some ⟨r, 0, none⟩) n cap) xs) {i : Nat} {x : α} (hi : xs[i]? = some x) : Lies w r (i * k) (en x).toArray := by
  rcases h.own.2 with ⟨hv, h0⟩ | ⟨g, cap, cur, hv, _, hg, hn, hm, hs, ht⟩
  · cases hv
  · cases hv
    intro j hj
    have hj' : j < k := by simpa [hen] using hj
    refine cell_of hg ?_
    have h1 := get_flatMap hen xs i j x hi hj'
    rw [← ht, List.getElem?_take] at h1
    split at h1
    · rw [Array.getElem?_toList] at h1
      rw [h1]
      simp
    · rw [List.getElem?_eq_getElem (by rw [hen]; exact hj')] at h1
      cases h1
theorem setMany_all {cur : Array Value} {vs : List Value} (h : cur.size = vs.length) : setMany cur 0 vs = vs.toArray := by
  apply Array.ext'
  apply List.ext_getElem?
  intro i
  rw [Array.getElem?_toList]
  by_cases hi : i < cur.size
  · rw [setMany_get vs 0 cur i hi, if_pos ⟨Nat.zero_le _, by omega⟩]
    simp
  · rw [Array.getElem?_eq_none (by rw [setMany_size]; omega)]
    simp
    omega
/-- A struct is laid over another. -/
theorem exec_storeB {ρ : Operand → Value} {ty : TypeId} {pos : String} {after : Array Edge} {t : TypeId} {x y : Operand} {b : Nat} {cs cur : Array Value} {T : TypeId} (hT : AggT P t cs.size) (hb : w.heap[b]? = some (.cells cur T (0, 0))) (hc : cur.size = cs.size) (h1 : cs.all (·.oneCell') = true) :
    ∃ w', (∀ (ρ : Operand → Value) (dst : Option Tmp) (ty : TypeId) (pos : String) (after : Array Edge) (g : Option (Nat × Bool)) (x y : Operand), ρ x = .pointer (some ⟨b, 0, none⟩) → ρ y = .agg cs → (execOp ρ ⟨dst, .store t x y, ty, pos, after, g⟩).run P w = .ok .skip w') ∧
      w'.heap[b]? = some (.cells cs T (0, 0)) ∧ Mod (fun x => x = b) w w' := by
  have h1' : ∀ v ∈ cs.toList, v.oneCell' = true := fun v hv => (Array.all_eq_true_iff_forall_mem.1 h1) v (by simpa using hv)
  refine ⟨w.setCells b 0 cs.toList, fun ρ dst ty pos after g x y hx hy => exec_storeA hT hx hy hb (by omega) h1', ?_, Mod.setCells (S := fun x => x = b) (fun _ => rfl) _ _ _ (Mod.refl _ _)⟩
  have h := heap_setCells_at cs.toList 0 w cur hb
  rw [setMany_all (by simpa using hc)] at h
  simpa using h
theorem wpList_storeB {dst : Option Tmp} {ty : TypeId} {pos : String} {after : Array Edge} {t : TypeId} {x y : Operand} {b : Nat} {cs cur : Array Value} {T : TypeId} (hT : AggT P t cs.size) (hx : a.eval x = .pointer (some ⟨b, 0, none⟩)) (hy : a.eval y = .agg cs) (hb : w.heap[b]? = some (.cells cur T (0, 0))) (hc : cur.size = cs.size) (h1 : cs.all (·.oneCell') = true)
    (h : ∀ w', w'.heap[b]? = some (.cells cs T (0, 0)) → Mod (fun x => x = b) w w' → wpList P ops Q rest (a.put dst undef) w') : wpList P ops Q (⟨dst, .store t x y, ty, pos, after, none⟩ :: rest) a w := by
  obtain ⟨w', hr, h2, h3⟩ := exec_storeB (ρ := a.eval) (ty := ty) (pos := pos) (after := after) (x := x) (y := y) hT hb hc h1
  exact wpList_execSkip rfl (hr _ _ _ _ _ _ _ _ hx hy) (h w' h2 h3)
/-- A result that lies in cells, and two that do not. -/
theorem results_cell3 {fn : Func} {t u v : Tmp} {T : TypeId} (h : fn.results = #[.cell t T, .tmp u, .tmp v]) (tmps : Array Value) {P : Program} {w : World} {b o : Nat} {cs : Array Value} (ht : tmps.getD t undef = .pointer (some ⟨b, o, none⟩)) (hT : AggT P T cs.size) (hL : Lies w b o cs) :
    (results fn tmps).run P w = .ok (.tuple #[.agg cs, tmps.getD u undef, tmps.getD v undef]) w := by
  have hl := run_loadA hT hL
  simp only [Instr.loadAt, Instr.sureAddr, Sem.run_bind, Sem.run_pure, Result.andThen_ok] at hl
  have ht' : tmps[t]?.getD undef = .pointer (some ⟨b, o, none⟩) := by rw [← ht]; simp
  simp [results, h, ht', asAddr, hl]
/-- 'm[k] = v', the world behind it under a name. -/
theorem exec_mapUpd {κ : Type} [DecidableEq κ] {enc : κ → Value} {K E T m clk : Nat} {L : Ents κ} (hK : KeyOK P K enc) (hT : P.underlying T = some (.map K E)) (hb : w.heap[m]? = some (.map (ents enc L) clk)) (hwf : WF L clk) (k : κ) (v : Value) :
    ∃ w', (∀ (ρ : Operand → Value) (dst : Option Tmp) (ty : TypeId) (pos : String) (after : Array Edge) (g : Option (Nat × Bool)) (x i y : Operand), ρ x = .map (some m) → ρ i = enc k → ρ y = v → (execOp ρ ⟨dst, .mapUpdate T x i y, ty, pos, after, g⟩).run P w = .ok .skip w') ∧
      w'.heap[m]? = some (.map (ents enc (upd k v L clk)) (updClk k L clk)) ∧ WF (upd k v L clk) (updClk k L clk) ∧ Mod (fun x => x = m) w w' := by
  refine ⟨setObjW w m (.map (ents enc (upd k v L clk)) (updClk k L clk)), fun ρ dst ty pos after g x i y hx hi hy => ?_, setObjW_at (lt_of_block hb), hwf.upd, setObjW_mod _ _⟩
  have := exec_mapUpdate (P := P) (dst := dst) (ty := ty) (pos := pos) (after := after) (g := g) (y := y) hK hT hb hx k hi
  rw [hy] at this
  exact this
theorem wpList_mapUpd {κ : Type} [DecidableEq κ] {enc : κ → Value} {K E T m clk : Nat} {L : Ents κ} (hK : KeyOK P K enc) (hT : P.underlying T = some (.map K E)) (hb : w.heap[m]? = some (.map (ents enc L) clk)) (hwf : WF L clk) (k : κ) (v : Value) {dst : Option Tmp} {ty : TypeId} {pos : String} {after : Array Edge} {x i y : Operand}
    (hx : a.eval x = .map (some m)) (hi : a.eval i = enc k) (hy : a.eval y = v)
    (h : ∀ w', w'.heap[m]? = some (.map (ents enc (upd k v L clk)) (updClk k L clk)) → WF (upd k v L clk) (updClk k L clk) → Mod (fun x => x = m) w w' → wpList P ops Q rest (a.put dst undef) w') : wpList P ops Q (⟨dst, .mapUpdate T x i y, ty, pos, after, none⟩ :: rest) a w := by
  obtain ⟨w', hr, h1, h2, h3⟩ := exec_mapUpd (P := P) hK hT hb hwf k v
  exact wpList_execSkip rfl (hr _ _ _ _ _ _ _ _ _ hx hi hy) (h w' h1 h2 h3)
end Go.Tn

/- A store of one cell, as one operation. No program. -/
namespace Go.Tn
open Go.RowKit
variable {P : Program}

def plainV : Value → Bool
  | .int _ _ | .bool _ | .string _ | .pointer _ | .slice _ _ _ | .map _ => true
  | _ => false
theorem exec_store1 {ρ : Operand → Value} {dst : Option Tmp} {ty : TypeId} {pos : String} {after : Array Edge} {g : Option (Nat × Bool)} {t : TypeId} {x y : Operand} {w : World} {b o : Nat} {v old : Value} (hT : ScalarT P t) (hsz : (P.info? t).map (·.size) = some 1) (hx : ρ x = .pointer (some ⟨b, o, none⟩)) (hy : ρ y = v) (h1 : plainV v = true) (hc : w.cell? ⟨b, o, none⟩ = some old) (hf : w.frozen? ⟨b, o, none⟩ = false) :
    (execOp ρ ⟨dst, .store t x y, ty, pos, after, g⟩).run P w = .ok .skip (w.setCell ⟨b, o, none⟩ v) := by
  obtain ⟨d, hu, hd⟩ := hT.plain
  have hagg : (isAgg t).run P w = .ok false w := by cases d <;> simp at hd <;> simp [isAgg, underlying, hu]
  cases hq : P.info? t with
  | none => simp [hq] at hsz
  | some i =>
    have hs : i.size = 1 := by simpa [hq] using hsz
    have hso : (sizeOf t).run P w = .ok 1 w := by simp [sizeOf, typeInfo, hq, hs]
    cases v <;> first
      | (simp [execOp, hx, hy, Instr.storeAt, Instr.sureAddr, storeVar, hso, storeCells, hc, hf, go_sem]; done)
      | (exfalso; simp [plainV] at h1; done)
end Go.Tn

namespace Go.Tn.Bits
end Go.Tn.Bits

/- Shifts, bits of small numbers, as natural numbers. No program. -/
namespace Go.Tn.Bt
open Go.Tn.Bits

theorem wrap8 (x : Nat) : IntKind.u8.wrap (x : Int) = ((x % 256 : Nat) : Int) := by rw [IntKind.wrap_u8]; omega
theorem wrap32 (x : Nat) : IntKind.u32.wrap (x : Int) = ((x % 4294967296 : Nat) : Int) := by rw [IntKind.wrap_u32]; omega
theorem wrap64 (x : Nat) : IntKind.u64.wrap (x : Int) = ((x % 18446744073709551616 : Nat) : Int) := by rw [IntKind.wrap_u64]; omega
theorem and8 (x y : Nat) (hx : x < 256) (hy : y < 256) : bits .and .u8 (x : Int) (y : Int) = ((x &&& y : Nat) : Int) := by
  have h : x &&& y < 256 := Nat.lt_of_le_of_lt Nat.and_le_left hx
  unfold Go.bits
  simp only [BitVec.ofInt_natCast]
  rw [BitVec.toNat_and, BitVec.toNat_ofNat, BitVec.toNat_ofNat]
  rw [Nat.mod_eq_of_lt (show x < 2 ^ IntKind.u8.bits from hx), Nat.mod_eq_of_lt (show y < 2 ^ IntKind.u8.bits from hy)]
  rw [wrap8, Nat.mod_eq_of_lt h]
theorem or8 (x y : Nat) (hx : x < 256) (hy : y < 256) : bits .or .u8 (x : Int) (y : Int) = ((x ||| y : Nat) : Int) := by
  have h : x ||| y < 2 ^ 8 := Nat.or_lt_two_pow hx hy
  unfold Go.bits
  simp only [BitVec.ofInt_natCast]
  rw [BitVec.toNat_or, BitVec.toNat_ofNat, BitVec.toNat_ofNat]
  rw [Nat.mod_eq_of_lt (show x < 2 ^ IntKind.u8.bits from hx), Nat.mod_eq_of_lt (show y < 2 ^ IntKind.u8.bits from hy)]
  rw [wrap8, Nat.mod_eq_of_lt h]
theorem and32 (x y : Nat) (hx : x < 4294967296) (hy : y < 4294967296) : bits .and .u32 (x : Int) (y : Int) = ((x &&& y : Nat) : Int) := by
  have h : x &&& y < 4294967296 := Nat.lt_of_le_of_lt Nat.and_le_left hx
  unfold Go.bits
  simp only [BitVec.ofInt_natCast]
  rw [BitVec.toNat_and, BitVec.toNat_ofNat, BitVec.toNat_ofNat]
  rw [Nat.mod_eq_of_lt (show x < 2 ^ IntKind.u32.bits from hx), Nat.mod_eq_of_lt (show y < 2 ^ IntKind.u32.bits from hy)]
  rw [wrap32, Nat.mod_eq_of_lt h]
theorem or32 (x y : Nat) (hx : x < 4294967296) (hy : y < 4294967296) : bits .or .u32 (x : Int) (y : Int) = ((x ||| y : Nat) : Int) := by
  have h : x ||| y < 2 ^ 32 := Nat.or_lt_two_pow hx hy
  unfold Go.bits
  simp only [BitVec.ofInt_natCast]
  rw [BitVec.toNat_or, BitVec.toNat_ofNat, BitVec.toNat_ofNat]
  rw [Nat.mod_eq_of_lt (show x < 2 ^ IntKind.u32.bits from hx), Nat.mod_eq_of_lt (show y < 2 ^ IntKind.u32.bits from hy)]
  rw [wrap32, Nat.mod_eq_of_lt h]
theorem mask8 (p k : Nat) (hk : k ≤ 8) : (p % 256) &&& (2 ^ k - 1) = p % 2 ^ k := by
  rw [Nat.and_two_pow_sub_one_eq_mod, Nat.mod_mod_of_dvd]
  exact Nat.pow_dvd_pow (n := 8) 2 hk
end Go.Tn.Bt

/- Rows of bits and the bytes that they make: no program. -/
namespace Go.Tn.Bt

/-- A number's last n bits, the highest first. -/
def bitsN (x : Nat) : Nat → List Bool
  | 0 => []
  | n + 1 => x.testBit n :: bitsN x n
/-- The number that bits are. -/
def natOf : List Bool → Nat
  | [] => 0
  | b :: r => b.toNat * 2 ^ r.length + natOf r
/-- The byte that begins with at most eight bits. -/
def byteOf (l : List Bool) : Nat := natOf l * 2 ^ (8 - l.length)
def packN : Nat → List Bool → List Nat
  | 0, _ => []
  | n + 1, l => byteOf (l.take 8) :: packN n (l.drop 8)
/-- The bytes that bits make, the last one filled with noughts. -/
def pack (l : List Bool) : List Nat := packN ((l.length + 7) / 8) l
/-- The bits of bytes. -/
def unpack (b : List Nat) : List Bool := b.flatMap (fun x => bitsN x 8)
theorem bitsN_len (x : Nat) : ∀ n, (bitsN x n).length = n
  | 0 => rfl
  | n + 1 => by simp [bitsN, bitsN_len x n]
theorem natOf_append : ∀ a b : List Bool, natOf (a ++ b) = natOf a * 2 ^ b.length + natOf b
  | [], b => by simp [natOf]
  | x :: a, b => by
    simp only [List.cons_append, natOf, natOf_append a b, List.length_append, Nat.pow_add, Nat.add_mul, Nat.mul_assoc, Nat.add_assoc]
theorem natOf_lt : ∀ a : List Bool, natOf a < 2 ^ a.length
  | [] => by simp [natOf]
  | x :: a => by
    have := natOf_lt a
    have hx : x.toNat ≤ 1 := by cases x <;> decide
    have : x.toNat * 2 ^ a.length ≤ 1 * 2 ^ a.length := Nat.mul_le_mul_right _ hx
    simp only [natOf, List.length_cons, Nat.pow_succ]
    omega
theorem natOf_bitsN (x : Nat) : ∀ n, natOf (bitsN x n) = x % 2 ^ n
  | 0 => by simp [natOf, bitsN, Nat.mod_one]
  | n + 1 => by
    simp only [bitsN, natOf, bitsN_len, natOf_bitsN x n]
    rw [Nat.mod_pow_succ, Nat.testBit_eq_decide_div_mod_eq]
    have h : x / 2 ^ n % 2 < 2 := Nat.mod_lt _ (by decide)
    have : (decide (x / 2 ^ n % 2 = 1)).toNat = x / 2 ^ n % 2 := by
      by_cases h1 : x / 2 ^ n % 2 = 1
      · simp [h1]
      · have : x / 2 ^ n % 2 = 0 := by omega
        simp [this]
    rw [this, Nat.mul_comm, Nat.add_comm]
theorem bitsN_add (x m : Nat) : ∀ k, bitsN x (k + m) = bitsN (x / 2 ^ m) k ++ bitsN x m
  | 0 => by simp [bitsN]
  | k + 1 => by
    rw [Nat.succ_add]
    simp only [bitsN, List.cons_append, bitsN_add x m k]
    rw [Nat.testBit_div_two_pow, Nat.add_comm k m]
theorem bitsN_congr {x y : Nat} : ∀ {n : Nat}, x % 2 ^ n = y % 2 ^ n → bitsN x n = bitsN y n
  | 0, _ => rfl
  | n + 1, h => by
    have h1 : x.testBit n = y.testBit n := by
      have e1 := Nat.testBit_mod_two_pow x (n + 1) n
      have e2 := Nat.testBit_mod_two_pow y (n + 1) n
      rw [h] at e1
      rw [e1] at e2
      simpa using e2
    have h2 : x % 2 ^ n = y % 2 ^ n := by
      have := congrArg (· % 2 ^ n) h
      simpa [Nat.mod_mod_of_dvd _ (Nat.pow_dvd_pow 2 (Nat.le_succ n))] using this
    simp only [bitsN, h1, bitsN_congr h2]
theorem bitsN_natOf : ∀ l : List Bool, bitsN (natOf l) l.length = l
  | [] => rfl
  | b :: r => by
    have hlt := natOf_lt r
    have h0 : (natOf (b :: r)) % 2 ^ r.length = natOf r % 2 ^ r.length := by simp only [natOf]; rw [Nat.add_comm, Nat.add_mul_mod_self_right]
    simp only [List.length_cons, bitsN]
    rw [bitsN_congr h0, bitsN_natOf r]
    congr 1
    simp only [natOf]
    rw [Nat.testBit_eq_decide_div_mod_eq, Nat.add_comm, Nat.add_mul_div_right _ _ (Nat.two_pow_pos _), Nat.div_eq_of_lt hlt]
    cases b <;> simp
theorem byteOf_lt {l : List Bool} (h : l.length ≤ 8) : byteOf l < 256 := by
  have h1 := natOf_lt l
  unfold byteOf
  calc natOf l * 2 ^ (8 - l.length) < 2 ^ l.length * 2 ^ (8 - l.length) := (Nat.mul_lt_mul_right (Nat.two_pow_pos _)).2 h1
    _ = 256 := by rw [← Nat.pow_add, show l.length + (8 - l.length) = 8 by omega]
theorem packN_len : ∀ n l, (packN n l).length = n
  | 0, _ => rfl
  | n + 1, l => by simp [packN, packN_len n]
theorem pack_len (l : List Bool) : (pack l).length = (l.length + 7) / 8 := packN_len _ _
theorem packN_lt : ∀ n l, ∀ x ∈ packN n l, x < 256
  | 0, _, _, h => by cases h
  | n + 1, l, x, h => by
    rcases List.mem_cons.1 h with rfl | h
    · exact byteOf_lt (by simp [List.length_take]; omega)
    · exact packN_lt n _ x h
theorem pack_lt (l : List Bool) : ∀ x ∈ pack l, x < 256 := packN_lt _ _
theorem packN_append : ∀ (q : Nat) (a b : List Bool) (m : Nat), a.length = 8 * q → packN (q + m) (a ++ b) = packN q a ++ packN m b
  | 0, a, b, m, h => by
    have : a = [] := List.eq_nil_of_length_eq_zero (by omega)
    subst this
    simp [packN]
  | q + 1, a, b, m, h => by
    rw [Nat.succ_add]
    simp only [packN, List.cons_append]
    rw [List.take_append_of_le_length (by omega), List.drop_append_of_le_length (by omega), packN_append q _ b m (by rw [List.length_drop]; omega)]
theorem pack_append {a : List Bool} (b : List Bool) {q : Nat} (h : a.length = 8 * q) : pack (a ++ b) = pack a ++ pack b := by
  unfold pack
  rw [List.length_append, h, show (8 * q + b.length + 7) / 8 = q + (b.length + 7) / 8 by omega, packN_append q a b _ h]
  rw [show (8 * q + 7) / 8 = q by omega]
theorem pack_small {l : List Bool} (h0 : 0 < l.length) (h : l.length ≤ 8) : pack l = [byteOf l] := by
  unfold pack
  rw [show (l.length + 7) / 8 = 1 by omega]
  simp [packN, List.take_of_length_le h]
theorem byteOf_append {a b : List Bool} (h : a.length + b.length ≤ 8) : byteOf (a ++ b) = byteOf a ||| (natOf b * 2 ^ (8 - (a.length + b.length))) := by
  have e : byteOf a = (natOf a) <<< (8 - a.length) := by rw [Nat.shiftLeft_eq]; rfl
  have hb := natOf_lt b
  have hb' : natOf b * 2 ^ (8 - (a.length + b.length)) < 2 ^ (8 - a.length) := by
    calc natOf b * 2 ^ (8 - (a.length + b.length)) < 2 ^ b.length * 2 ^ (8 - (a.length + b.length)) := (Nat.mul_lt_mul_right (Nat.two_pow_pos _)).2 hb
      _ = 2 ^ (8 - a.length) := by rw [← Nat.pow_add, show b.length + (8 - (a.length + b.length)) = 8 - a.length by omega]
  rw [e, ← Nat.shiftLeft_add_eq_or_of_lt hb', Nat.shiftLeft_eq]
  unfold byteOf
  rw [natOf_append, List.length_append, Nat.add_mul, Nat.mul_assoc, ← Nat.pow_add, show b.length + (8 - (a.length + b.length)) = 8 - a.length by omega]
/-- How many bits of the last byte are used. -/
def used (l : List Bool) : Nat := if l.length % 8 = 0 then 8 else l.length % 8
theorem split8 (l : List Bool) : ∃ a t : List Bool, l = a ++ t ∧ a.length = 8 * (l.length / 8) ∧ t.length = l.length % 8 :=
  ⟨l.take (8 * (l.length / 8)), l.drop (8 * (l.length / 8)), (List.take_append_drop _ _).symm, by rw [List.length_take]; omega, by rw [List.length_drop]; omega⟩
/-- More bits in the last byte. -/
theorem pack_more {l p : List Bool} (h0 : 0 < l.length % 8) (hp : l.length % 8 + p.length ≤ 8) :
    pack (l ++ p) = (pack l).set ((pack l).length - 1) ((pack l).getLastD 0 ||| (natOf p * 2 ^ (8 - (l.length % 8 + p.length)))) := by
  obtain ⟨a, t, rfl, ha, ht⟩ := split8 l
  generalize (a ++ t).length / 8 = q at ha
  have htl : t.length < 8 := by rw [ht]; exact Nat.mod_lt _ (by decide)
  rw [← ht] at h0 hp ⊢
  rw [List.append_assoc, pack_append _ ha, pack_append _ ha, pack_small (l := t) h0 (by omega), pack_small (l := t ++ p) (by rw [List.length_append]; omega) (by rw [List.length_append]; omega), byteOf_append hp]
  simp
theorem pack_new {l p : List Bool} (h0 : l.length % 8 = 0) (h1 : 0 < p.length) (hp : p.length ≤ 8) : pack (l ++ p) = pack l ++ [natOf p * 2 ^ (8 - p.length)] := by
  rw [pack_append p (q := l.length / 8) (by omega), pack_small h1 hp]
  rfl
theorem unpack_append (a b : List Nat) : unpack (a ++ b) = unpack a ++ unpack b := by simp [unpack]
theorem unpack_len : ∀ b : List Nat, (unpack b).length = 8 * b.length
  | [] => rfl
  | x :: b => by
    show (bitsN x 8 ++ unpack b).length = _
    rw [List.length_append, bitsN_len, unpack_len b, List.length_cons]
    omega
theorem natOf_zeros : ∀ k, natOf (List.replicate k false) = 0
  | 0 => rfl
  | k + 1 => by simp [List.replicate_succ, natOf, natOf_zeros k]
theorem bitsN_byteOf {l : List Bool} (h : l.length ≤ 8) : bitsN (byteOf l) 8 = l ++ List.replicate (8 - l.length) false := by
  have e : byteOf l = natOf (l ++ List.replicate (8 - l.length) false) := by rw [natOf_append, natOf_zeros, List.length_replicate]; rfl
  have e2 : 8 = (l ++ List.replicate (8 - l.length) false).length := by rw [List.length_append, List.length_replicate]; omega
  rw [e]
  conv => lhs; arg 2; rw [e2]
  exact bitsN_natOf _
theorem unpack_packN : ∀ (n : Nat) (l : List Bool), l.length ≤ 8 * n → unpack (packN n l) = l ++ List.replicate (8 * n - l.length) false
  | 0, l, h => by
    have : l = [] := List.eq_nil_of_length_eq_zero (by omega)
    subst this
    rfl
  | n + 1, l, h => by
    have hl : (l.take 8).length ≤ 8 := by rw [List.length_take]; omega
    show bitsN (byteOf (l.take 8)) 8 ++ unpack (packN n (l.drop 8)) = _
    rw [bitsN_byteOf hl, unpack_packN n (l.drop 8) (by rw [List.length_drop]; omega), List.length_drop]
    by_cases h8 : 8 ≤ l.length
    · rw [List.length_take, Nat.min_eq_left h8]
      rw [show 8 - 8 = 0 by rfl, List.replicate_zero, List.append_nil, ← List.append_assoc, List.take_append_drop]
      rw [show 8 * n - (l.length - 8) = 8 * (n + 1) - l.length by omega]
    · rw [List.take_of_length_le (by omega), List.drop_eq_nil_of_le (by omega), List.nil_append, List.append_assoc, List.replicate_append_replicate]
      rw [show 8 - l.length + (8 * n - (l.length - 8)) = 8 * (n + 1) - l.length by omega]
theorem unpack_pack (l : List Bool) : unpack (pack l) = l ++ List.replicate (8 * ((l.length + 7) / 8) - l.length) false := unpack_packN _ _ (by omega)
end Go.Tn.Bt

/- Bits that are read: no program. -/
namespace Go.Tn.Bt
open Go.Tn.Bits

theorem drop_bitsN (x : Nat) : ∀ (m n : Nat), (bitsN x n).drop m = bitsN x (n - m)
  | 0, n => by simp
  | m + 1, 0 => by simp [bitsN]
  | m + 1, n + 1 => by
    rw [show n + 1 - (m + 1) = n - m by omega, ← drop_bitsN x m n]
    rfl
theorem take_bitsN (x : Nat) {k n : Nat} (h : k ≤ n) : (bitsN x n).take k = bitsN (x / 2 ^ (n - k)) k := by
  have e := bitsN_add x (n - k) k
  rw [show k + (n - k) = n by omega] at e
  rw [e, List.take_left' (bitsN_len _ _)]
theorem unpack_drop : ∀ (q : Nat) (B : List Nat), (unpack B).drop (8 * q) = unpack (B.drop q)
  | 0, B => rfl
  | q + 1, [] => by simp [unpack]
  | q + 1, x :: B => by
    show (bitsN x 8 ++ unpack B).drop (8 * (q + 1)) = unpack (B.drop q)
    rw [List.drop_append, bitsN_len, List.drop_eq_nil_of_le (by rw [bitsN_len]; omega), List.nil_append, show 8 * (q + 1) - 8 = 8 * q by omega, unpack_drop q B]
/-- Bits within a byte. -/
theorem unpack_at {B : List Nat} {q t k c : Nat} (hc : B[q]? = some c) (h : t + k ≤ 8) : ((unpack B).drop (8 * q + t)).take k = bitsN (c / 2 ^ (8 - t - k)) k := by
  obtain ⟨hlt, rfl⟩ := List.getElem?_eq_some_iff.1 hc
  rw [← List.drop_drop, unpack_drop, List.drop_eq_getElem_cons hlt]
  show ((bitsN B[q] 8 ++ unpack (B.drop (q + 1))).drop t).take k = _
  rw [List.drop_append_of_le_length (by rw [bitsN_len]; omega), drop_bitsN, List.take_append_of_le_length (by rw [bitsN_len]; omega), take_bitsN _ (by omega)]
/-- Some bits more. -/
theorem take_more (L : List Bool) (a j k : Nat) : (L.drop a).take (j + k) = (L.drop a).take j ++ (L.drop (a + j)).take k := by
  rw [List.take_add, List.drop_drop]
theorem and7 (x : Nat) (hx : x < 9223372036854775808) : bits .and .i64 (x : Int) 7 = ((x % 8 : Nat) : Int) := by
  have h : x &&& 7 = x % 8 := Nat.and_two_pow_sub_one_eq_mod x 3
  have h7 : (7 : Int) = ((7 : Nat) : Int) := rfl
  unfold Go.bits
  rw [h7]
  simp only [BitVec.ofInt_natCast]
  rw [BitVec.toNat_and, BitVec.toNat_ofNat, BitVec.toNat_ofNat]
  rw [Nat.mod_eq_of_lt (show x < 2 ^ IntKind.i64.bits by show x < 2 ^ 64; omega), Nat.mod_eq_of_lt (show 7 < 2 ^ IntKind.i64.bits by decide), h, IntKind.wrap_i64]
  omega
theorem or64 (x y : Nat) (hx : x < 18446744073709551616) (hy : y < 18446744073709551616) : bits .or .u64 (x : Int) (y : Int) = ((x ||| y : Nat) : Int) := bits_or x y hx hy
/-- Bits behind a number's. -/
theorem or_add (x p k : Nat) (hp : p < 2 ^ k) : x * 2 ^ k ||| p = x * 2 ^ k + p := by
  rw [← Nat.shiftLeft_eq, Nat.shiftLeft_add_eq_or_of_lt hp]
end Go.Tn.Bt
