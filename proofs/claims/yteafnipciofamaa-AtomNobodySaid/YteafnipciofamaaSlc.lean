/- A part of a list in a slice: s[:i], s[i:]. No program. -/
import Derived.Test.YteafnipciofamaaLst
namespace Go.Tn
open Go.RowKit
variable {P : Program} {α : Type} {en : α → List Value} {k : Nat} {e t : TypeId}

theorem add_zero (a : Addr) : a.add 0 = a := by
  cases a with
  | mk b o s => cases s <;> simp [Addr.add]
theorem sizeOf_of (hs : (P.info? e).map (·.size) = some k) (w : World) : (sizeOf e).run P w = .ok k w := by
  cases hq : P.info? e with
  | none => simp [hq] at hs
  | some i =>
    have : i.size = k := by simpa [hq] using hs
    simp [sizeOf, typeInfo, hq, this]
theorem exec_sliceHi {ρ : Operand → Value} {dst : Option Tmp} {ty : TypeId} {pos : String} {after : Array Edge} {g : Option (Nat × Bool)} {x y : Operand} {w : World} {ao : Option Addr} {len cap i : Nat} (hu : P.underlying t = some (.slice e)) (hs : (P.info? e).map (·.size) = some k) (hi : i ≤ cap) (hx : ρ x = .slice ao len cap) (hy : ρ y = .int .i64 i) :
    (execOp ρ ⟨dst, .slice t x none (some y) none, ty, pos, after, g⟩).run P w = .ok (.value (.slice ao i cap)) w := by
  have h0 : (0 : Int) ≤ (i : Int) ∧ (i : Int) ≤ (cap : Int) := by omega
  have ha : (if cap = 0 then ao else ao.map (·.add 0)) = ao := by
    split
    · rfl
    · cases ao with
      | none => rfl
      | some a => simp [add_zero]
  simp only [execOp, hx, hy, Option.map_some, Option.map_none, Instr.sliceAt, Instr.slice, Instr.sliceBounds, Instr.sliceBound, asIntOf, run_underlying hu, Sem.run_bind, Sem.run_pure, Result.andThen_ok, h0, and_self, if_true, sizeOf_of hs, Int.toNat_natCast, Nat.zero_mul, Nat.sub_zero, ha]
theorem exec_sliceLo {ρ : Operand → Value} {dst : Option Tmp} {ty : TypeId} {pos : String} {after : Array Edge} {g : Option (Nat × Bool)} {x y : Operand} {w : World} {ao : Option Addr} {len cap i : Nat} (hu : P.underlying t = some (.slice e)) (hs : (P.info? e).map (·.size) = some k) (hi : i ≤ len) (hx : ρ x = .slice ao len cap) (hy : ρ y = .int .i64 i) :
    (execOp ρ ⟨dst, .slice t x (some y) none none, ty, pos, after, g⟩).run P w = .ok (.value (.slice (if cap = i then ao else ao.map (·.add (i * k))) (len - i) (cap - i))) w := by
  have h0 : (0 : Int) ≤ (i : Int) ∧ (i : Int) ≤ (len : Int) := by omega
  simp [execOp, hx, hy, Instr.sliceAt, Instr.slice, Instr.sliceBounds, Instr.sliceBound, asIntOf, run_underlying hu, h0, sizeOf_of hs]
  intro hlt
  omega
theorem LSl.take {w : World} {ao : Option Addr} {n cap : Nat} {xs : List α} (h : LSl en k w (.slice ao n cap) xs) {i : Nat} (hi : i ≤ xs.length) : LSl en k w (.slice ao i cap) (xs.take i) := by
  obtain ⟨ao', cap', hv, h1, h2, h3⟩ := h
  cases hv
  have hl : (xs.take i).length = i := by rw [List.length_take]; omega
  refine ⟨ao, cap, by rw [hl], by rw [hl]; omega, h2, fun h0 => ?_⟩
  obtain ⟨b, off, rfl, hlt, hc⟩ := h3 (by omega)
  refine ⟨b, off, rfl, hlt, fun j x hj => hc j x ?_⟩
  rw [List.getElem?_take] at hj
  split at hj
  · exact hj
  · cases hj
theorem LSl.drop {w : World} {ao : Option Addr} {n cap : Nat} {xs : List α} (h : LSl en k w (.slice ao n cap) xs) {i : Nat} (hi : i ≤ xs.length) : LSl en k w (.slice (if cap = i then ao else ao.map (·.add (i * k))) (n - i) (cap - i)) (xs.drop i) := by
  obtain ⟨ao', cap', hv, h1, h2, h3⟩ := h
  cases hv
  have hl : (xs.drop i).length = xs.length - i := List.length_drop
  refine ⟨_, cap - i, by rw [hl], by rw [hl]; omega, by omega, fun h0 => ?_⟩
  rw [hl] at h0
  obtain ⟨b, off, rfl, hlt, hc⟩ := h3 (by omega)
  refine ⟨b, off + i * k, ?_, hlt, fun j x hj q hq => ?_⟩
  · rw [if_neg (by omega)]
    simp [addr_add]
  · rw [List.getElem?_drop] at hj
    have := hc (i + j) x hj q hq
    rw [Nat.add_mul] at this
    rw [show off + i * k + j * k + q = off + (i * k + j * k) + q by omega]
    exact this
theorem exec_sliceLo2 {ρ : Operand → Value} {dst : Option Tmp} {ty : TypeId} {pos : String} {after : Array Edge} {g : Option (Nat × Bool)} {x y : Operand} {w : World} {ao ad : Option Addr} {len cap i ln cn : Nat} (hu : P.underlying t = some (.slice e)) (hs : (P.info? e).map (·.size) = some k) (hi : i ≤ len) (had : (if cap = i then ao else ao.map (·.add (i * k))) = ad) (hln : len - i = ln) (hcn : cap - i = cn) (hx : ρ x = .slice ao len cap) (hy : ρ y = .int .i64 i) :
    (execOp ρ ⟨dst, .slice t x (some y) none none, ty, pos, after, g⟩).run P w = .ok (.value (.slice ad ln cn)) w := by
  subst had hln hcn
  exact exec_sliceLo hu hs hi hx hy
theorem LSl.drop2 {w : World} {ao ad : Option Addr} {n cap ln cn : Nat} {xs : List α} (h : LSl en k w (.slice ao n cap) xs) {i : Nat} (hi : i ≤ xs.length) (had : (if cap = i then ao else ao.map (·.add (i * k))) = ad) (hln : n - i = ln) (hcn : cap - i = cn) : LSl en k w (.slice ad ln cn) (xs.drop i) := by
  subst had hln hcn
  exact h.drop hi
theorem wpList_appendN {ops : Array Oper} {rest : List Oper} {a : Act} {Q : Exit → Act → World → Prop} (E : ElT P t e k en) {B : Nat} {w : World} {v u : Value} {xs ys : List α} (h : LOut en k e B w v xs) (hu : LSl en k w u ys) (hsz : xs.length + ys.length ≤ 100000) {dst : Option Tmp} {ty : TypeId} {pos : String} {after : Array Edge} {s y : Operand}
    (hs : a.eval s = v) (hy : a.eval y = u)
    (hk : ∀ v' w', LOut en k e B w' v' (xs ++ ys) → w.grownBy w' v.ownBlock → (v'.ownBlock = v.ownBlock ∨ v'.ownBlock = some w.heap.size) → wpList P ops Q rest (a.put dst v') w') :
    wpList P ops Q ({ dst := dst, op := .call { callee := .builtin .append, args := #[s, y], argTypes := #[t, t] }, type := ty, pos := pos, after := after, guard := none } :: rest) a w := by
  obtain ⟨v', w', hr, ho, hg, hl⟩ := run_appendM E (ty := ty) h hu hsz
  refine wpList_exec rfl (v := v') (w' := w') ?_ (hk v' w' ho hg hl)
  simp only [execOp, resolve, invoke, builtin, Sem.run_bind, Sem.run_pure, Result.andThen_ok, List.map_toArray, List.map_cons, List.map_nil, hs, hy, hr]

theorem flatMap_set (hen : ∀ x, (en x).length = k) : ∀ (xs : List α) (i j : Nat) (x y : α) (u : Value), xs[i]? = some x → j < k → en y = (en x).set j u → (xs.set i y).flatMap en = (xs.flatMap en).set (i * k + j) u
  | [], i, j, x, y, u, h, _, _ => by simp at h
  | z :: zs, 0, j, x, y, u, h, hj, hy => by
    have : z = x := by simpa using h
    subst this
    rw [List.set_cons_zero, List.flatMap_cons, List.flatMap_cons, hy, Nat.zero_mul, Nat.zero_add, List.set_append_left _ _ (by rw [hen]; exact hj)]
  | z :: zs, i + 1, j, x, y, u, h, hj, hy => by
    have hx : zs[i]? = some x := by simpa using h
    have e1 : (i + 1) * k + j = (en z).length + (i * k + j) := by rw [hen, Nat.add_mul]; omega
    rw [List.set_cons_succ, List.flatMap_cons, List.flatMap_cons, flatMap_set hen zs i j x y u hx hj hy, e1, List.set_append_right _ _ (Nat.le_add_right _ _), Nat.add_sub_cancel_left]
/-- A store into an element's cell. -/
theorem LOut.set (hen : ∀ x, (en x).length = k) {B : Nat} {w : World} {b off n cap : Nat} {xs : List α} (h : LOut en k e B w (.slice (some ⟨b, off, none⟩) n cap) xs) {i j : Nat} {x y : α} {u : Value} (hi : xs[i]? = some x) (hj : j < k) (hy : en y = (en x).set j u) :
    LOut en k e B (w.setCell ⟨b, off + i * k + j, none⟩ u) (.slice (some ⟨b, off, none⟩) n cap) (xs.set i y) := by
  rcases h.own.2 with ⟨hv, _⟩ | ⟨g, cap', cur, hv, h0, hg, hn, hm, hs, ht⟩
  · cases hv
  · cases hv
    refine ⟨⟨by rw [len_flatMap hen], .inr ⟨b, cap, cur.setIfInBounds (0 + i * k + j) u, by rw [List.length_set], h0, heap_setCell_at hg, by rw [List.length_set]; exact hn, hm, by simpa using hs, ?_⟩⟩, h.lo, by simpa [World.setCell] using h.le⟩
    rw [flatMap_set hen xs i j x y u hi hj hy, ← ht, List.length_set, Nat.zero_add]
    simp [List.take_set]
theorem LOut.frozen {B : Nat} {w : World} {b off n cap : Nat} {xs : List α} (h : LOut en k e B w (.slice (some ⟨b, off, none⟩) n cap) xs) (o : Nat) : w.frozen? ⟨b, o, none⟩ = false := by
  rcases h.own.2 with ⟨hv, _⟩ | ⟨g, cap', cur, hv, h0, hg, _⟩
  · cases hv
  · cases hv
    exact free_of hg
end Go.Tn
