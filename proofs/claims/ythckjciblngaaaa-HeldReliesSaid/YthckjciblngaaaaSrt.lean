/- A list of one's own, sorted by the library: elements of some cells. No program. -/
import Derived.Test.YthckjciblngaaaaLst
import Derived.Shelf.SlSortCmp.NoneTotal
namespace Go.Tn
open Go.RowKit Go.Proofs Go.Sort Go.Shelf
section
variable {α : Type} [Inhabited α] {en : α → List Value} {k : Nat} {e : TypeId}

theorem getElem!_of {β : Type} [Inhabited β] {l : List β} {i : Nat} {x : β} (h : l[i]? = some x) : l[i]! = x := by
  rw [List.getElem!_eq_getElem?_getD, h]
  rfl
theorem holdsK_of_own (hen : ∀ x, (en x).length = k) (hk : 0 < k) {B : Nat} {w : World} {xs : List α} {g n cap : Nat} (h : LOut en k e B w (.slice (some ⟨g, 0, none⟩) n cap) xs) : HoldsK en k w g 0 xs.toArray := by
  rcases h.own.2 with ⟨hv, _⟩ | ⟨g', cap', cur, hv, _, hg, hn, hm, hs, ht⟩
  · cases hv
  · cases hv
    intro t htl
    have htl' : t < xs.length * k := by simpa using htl
    refine ⟨?_, by simp [World.frozen?, hg]⟩
    have hdm : t / k * k + t % k = t := by rw [Nat.mul_comm]; exact Nat.div_add_mod t k
    have hi : t / k < xs.length := Nat.div_lt_of_lt_mul (by rw [Nat.mul_comm]; exact htl')
    have hx : xs[t / k]? = some xs[t / k] := List.getElem?_eq_getElem hi
    have hm' : t % k < k := Nat.mod_lt _ hk
    have h1 := get_flatMap hen xs (t / k) (t % k) _ hx hm'
    rw [hdm, ← ht, List.getElem?_take_of_lt htl', Array.getElem?_toList] at h1
    have h3 : (en xs[t / k])[t % k]? = some ((en xs[t / k])[t % k]'(by rw [hen]; exact hm')) := List.getElem?_eq_getElem _
    rw [h3] at h1
    have hg' : (flatK en k xs.toArray)[t]! = (en xs[t / k])[t % k]'(by rw [hen]; exact hm') := by
      rw [get_flatK en k xs.toArray t (by simpa using htl')]
      have : xs.toArray[t / k]! = xs[t / k] := by simp [hi]
      rw [this]
      exact getElem!_of h3
    show w.cell? ⟨g, 0 + t, none⟩ = some (flatK en k xs.toArray)[t]!
    rw [hg', Nat.zero_add]
    exact cell_of hg h1
theorem lsl_of_holdsK (hen : ∀ x, (en x).length = k) {w : World} {g cap : Nat} {l : List α} (h : HoldsK en k w g 0 l.toArray) (h1 : l.length ≤ cap) (h2 : cap ≤ maxLen) (hg : g < w.heap.size) : LSl en k w (.slice (some ⟨g, 0, none⟩) l.length cap) l := by
  refine ⟨_, cap, rfl, h1, h2, fun _ => ⟨g, 0, rfl, hg, fun i x hi c hc => ?_⟩⟩
  have hc' : c < k := by simpa [hen] using hc
  have hlt := (List.getElem?_eq_some_iff.1 hi).1
  have h3 := (h.cell (i := i) (c := c) (by simpa using hlt) hc').1
  rw [h3]
  have hx : l.toArray[i]! = x := by
    have := getElem!_of hi
    simpa using this
  rw [hx]
  have h4 : (en x)[c]? = some ((en x)[c]'(by rw [hen]; exact hc')) := List.getElem?_eq_getElem _
  rw [getElem!_of h4]
  simp
theorem grownBy_sortK {w : World} {g n : Nat} {os : Array Obj} (d : Array α) : w.grownBy (sortWorldK en k w g 0 n d os) (some g) := by
  refine ⟨rfl, rfl, rfl, by simp [sortWorldK, putRowK, putRow, mapBlock, Sort.ahead, grow], fun j hk hne => ?_⟩
  unfold sortWorldK
  rw [heap_grow_old _ _ (by simpa [putRowK, putRow, mapBlock, Sort.ahead] using hk)]
  have : g ≠ j := fun e => hne (by rw [e])
  simp [putRowK, putRow, mapBlock, Sort.ahead, Array.getElem?_modify, this]

end
variable {α : Type} {en : α → List Value} {k : Nat} {e : TypeId}
/-- A list that can be read, in a block from B on. -/
structure LRd (en : α → List Value) (k : Nat) (B : Nat) (w : World) (v : Value) (xs : List α) : Prop where
  sl : LSl en k w v xs
  lo : ∀ r, v.ownBlock = some r → B ≤ r
  lt : ∀ r, v.ownBlock = some r → r < w.heap.size
theorem LRd.kept {B : Nat} {w w' : World} {v : Value} {xs : List α} (h : LRd en k B w v xs) (hs : w.heap.size ≤ w'.heap.size) (hb : ∀ r, v.ownBlock = some r → w'.heap[r]? = w.heap[r]?) : LRd en k B w' v xs := by
  refine ⟨?_, h.lo, fun r hr => Nat.lt_of_lt_of_le (h.lt r hr) hs⟩
  obtain ⟨ao, cap, rfl, h1, h2, h3⟩ := h.sl
  refine ⟨ao, cap, rfl, h1, h2, fun h0 => ?_⟩
  obtain ⟨b, off, rfl, hlt, hc⟩ := h3 h0
  refine ⟨b, off, rfl, Nat.lt_of_lt_of_le hlt hs, fun i x hi j hj => ?_⟩
  have := hc i x hi j hj
  simp only [World.cell?] at this ⊢
  rw [hb b rfl]
  exact this
theorem LRd.below {B : Nat} {w w' : World} {v : Value} {xs : List α} (h : LRd en k B w v xs) (hb : Below w.heap.size w w') : LRd en k B w' v xs :=
  h.kept hb.size fun _ hr => hb.block _ (h.lt _ hr)
theorem LRd.mono {B B' : Nat} {w : World} {v : Value} {xs : List α} (h : LRd en k B w v xs) (hB : B' ≤ B) : LRd en k B' w v xs :=
  ⟨h.sl, fun r hr => Nat.le_trans hB (h.lo r hr), h.lt⟩
theorem LOut.rd (hen : ∀ x, (en x).length = k) {B : Nat} {w : World} {v : Value} {xs : List α} (h : LOut en k e B w v xs) : LRd en k B w v xs :=
  ⟨h.sl hen, h.lo, fun _ hr => h.lt hr⟩
end Go.Tn
