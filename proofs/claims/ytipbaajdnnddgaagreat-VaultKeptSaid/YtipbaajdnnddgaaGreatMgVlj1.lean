/- Numbers bit by bit, the highest first: no program. -/
import Derived.WalkKit
import Derived.ProofKit
import Derived.OpenShut
import Derived.ShutString
import Derived.ChangeOld
import Derived.Below
import Derived.Deep.Slices
import Derived.WalkSpells
import Derived.WalkLawsBesides
import Derived.Still
import Derived.StillTailTactics
import Derived.Deep.QuietTactic
import Derived.BigQuiet
import Derived.Deep.WholeRow
import Derived.Deep.MidRow
import Derived.Lib.Hide
import Derived.Lib.BitFns
/- General lemmas: no program. What a deep reading says of each single cell; change of worlds; maps. -/
namespace Go.Tn
open Go.ChangeShapes Go.WideShapes Go.ChangeAt Go.RowKit

theorem below_drewN {B : Nat} {a w : World} (h : Below B a w) (n : Nat) : Below B a (w.drewN n) := h.trans ⟨rfl, rfl, rfl, Nat.le_refl _, fun _ _ => rfl⟩

/-! ### A struct's cells, each with its own type -/
def flatFields (P : Program) (g : TypeId → Option (List TypeId)) : List Field → Nat → Option (List TypeId)
  | [], _ => some []
  | f :: fs, o => if f.offset = o then (g f.type).bind fun ts => if P.cellsOf f.type = ts.length then (flatFields P g fs (o + ts.length)).map (ts ++ ·) else none else none
/-- The types of the cells of a value of type t, one for each cell; none where the layout is not the plain one. -/
def flat (P : Program) : Nat → TypeId → Option (List TypeId)
  | 0, _ => none
  | d + 1, t =>
    match P.underlying t with
    | some (.struct fs) => (flatFields P (flat P d) fs.toList 0).bind fun ts => if P.cellsOf t = ts.length then some ts else none
    | some (.array _ _) => none
    | some _ => if P.cellsOf t = 1 then some [t] else none
    | none => none

section
variable {H : Type} {enc : TypeId × Value → H} {P : Program} {w : World} {base : Nat} {spare : Nat → Bool} {held : Bool}

/-- What the reading says of each cell. -/
def CellsRead (enc : TypeId × Value → H) (P : Program) (w : World) (base : Nat) (spare : Nat → Bool) (held : Bool) (ts : List TypeId) (cs : List Value) : Prop :=
  cs.length = ts.length ∧ ∀ (i : Nat) (t : TypeId), ts[i]? = some t → ∃ c n y, cs[i]? = some c ∧ DataW.trod enc P w base spare held n t [c] = some y

theorem CellsRead.append {ts us : List TypeId} {cs ds : List Value} (h : CellsRead enc P w base spare held ts cs) (k : CellsRead enc P w base spare held us ds) :
    CellsRead enc P w base spare held (ts ++ us) (cs ++ ds) := by
  refine ⟨by simp [h.1, k.1], fun i t hi => ?_⟩
  by_cases hlt : i < ts.length
  · rw [List.getElem?_append_left hlt] at hi
    rw [List.getElem?_append_left (by rw [h.1]; exact hlt)]
    exact h.2 i t hi
  · rw [List.getElem?_append_right (by omega)] at hi
    rw [List.getElem?_append_right (by rw [h.1]; omega), h.1]
    exact k.2 _ t hi

theorem cellsRead_fields (d : Nat) (ih : ∀ (t : TypeId) (ts : List TypeId) (fuel : Nat) (cs : List Value) x, flat P d t = some ts → DataW.trod enc P w base spare held fuel t cs = some x → CellsRead enc P w base spare held ts cs) :
    ∀ (fs : List Field) (o : Nat) (ts : List TypeId) (cs : List Value) (n : Nat), flatFields P (flat P d) fs o = some ts → cs.length = o + ts.length →
      (∀ f ∈ fs, ∃ x, DataW.trod enc P w base spare held n f.type ((cs.drop f.offset).take (P.cellsOf f.type)) = some x) → CellsRead enc P w base spare held ts (cs.drop o)
  | [], o, ts, cs, n, h, hl, _ => by
    simp [flatFields] at h
    subst h
    refine ⟨by simp at hl ⊢; omega, fun i t hi => by simp at hi⟩
  | f :: fs, o, ts, cs, n, h, hl, hf => by
    simp only [flatFields] at h
    split at h
    · rename_i ho
      cases h1 : flat P d f.type with
      | none => simp [h1] at h
      | some us =>
        simp only [h1, Option.bind_some] at h
        split at h
        · rename_i hc
          cases h2 : flatFields P (flat P d) fs (o + us.length) with
          | none => simp [h2] at h
          | some vs =>
            simp [h2] at h
            subst h
            obtain ⟨x, hx⟩ := hf f (by simp)
            have a := ih _ _ _ _ _ h1 hx
            have b := cellsRead_fields d ih fs (o + us.length) vs cs n h2 (by simp at hl; omega) (fun g hg => hf g (by simp [hg]))
            have e : cs.drop o = (cs.drop f.offset).take (P.cellsOf f.type) ++ cs.drop (o + us.length) := by
              rw [ho, hc, ← List.drop_drop, List.take_append_drop]
            rw [e]
            exact a.append b
        · simp at h
    · simp at h

theorem cellsRead : ∀ (d : Nat) (t : TypeId) (ts : List TypeId) (fuel : Nat) (cs : List Value) x, flat P d t = some ts → DataW.trod enc P w base spare held fuel t cs = some x → CellsRead enc P w base spare held ts cs
  | 0, t, ts, fuel, cs, x, h, _ => by simp [flat] at h
  | d + 1, t, ts, fuel, cs, x, h, hx => by
    simp only [flat] at h
    split at h
    · rename_i fs hu
      cases h1 : flatFields P (flat P d) fs.toList 0 with
      | none => simp [h1] at h
      | some us =>
        simp only [h1, Option.bind_some] at h
        split at h
        · rename_i hc
          simp at h
          subst h
          obtain ⟨xs, n, _, _, hl, hlen, hf⟩ := DataW.trod_struct hu hx
          have := cellsRead_fields d (fun t ts fuel cs x => cellsRead d t ts fuel cs x) fs.toList 0 us cs n h1 (by omega) (fun f hm => by
            obtain ⟨i, hi, rfl⟩ := List.getElem_of_mem hm
            have hi' : i < fs.size := by simpa using hi
            have := hf i fs[i] (by simp [hi'])
            exact ⟨xs[i], by simpa [hlen, hi'] using this⟩)
          simpa using this
        · simp at h
    · simp at h
    · rename_i hne1 hne2 hu
      split at h
      · simp at h
        subst h
        have hone : ∃ c, cs = [c] := by
          cases fuel with
          | zero => simp [DataW.trod] at hx
          | succ fuel =>
            unfold DataW.trod at hx
            split at hx <;> first
              | exact ⟨_, rfl⟩
              | (exfalso; rename_i h2; exact hne1 _ (Option.some.inj (hu.symm.trans h2)))
              | (exfalso; rename_i h2; exact hne2 _ _ (Option.some.inj (hu.symm.trans h2)))
              | simp at hx
        obtain ⟨c, rfl⟩ := hone
        refine ⟨rfl, fun i u hi => ?_⟩
        match i, hi with
        | 0, hi => simp at hi; subst hi; exact ⟨c, fuel, x, rfl, hx⟩
      · simp at h
    · simp at h

/-! ### A slice of such values that came in -/
/-- A cell of type t reads. -/
def CellOk (enc : TypeId × Value → H) (P : Program) (w : World) (base : Nat) (spare : Nat → Bool) (held : Bool) (t : TypeId) (c : Value) : Prop := ∃ n y, DataW.trod enc P w base spare held n t [c] = some y

theorem cells?_get {a : Addr} {n : Nat} {cs : List Value} (h : w.cells? base a n = some cs) : cs.length = n ∧ ∀ i, i < n → w.cell? (a.add i) = cs[i]? := by
  obtain ⟨_, h2, h3⟩ := World.cells?_some h
  exact ⟨h2, h3⟩

/-- The slice is nil; or each cell of each of its elements is there, and reads as its type asks. -/
theorem open_flat {t e : TypeId} {d : Nat} {ts : List TypeId} {v : Value} {x : DataW H} {ps : List MemPlace} (ht : P.underlying t = some (.slice e)) (hfl : flat P d e = some ts) (hc : P.cellsOf e = ts.length) (hpos : 0 < ts.length)
    (h : DataW.Trod enc P w base spare held t v x ps) (hval : ∃ a n c, v = .slice a n c) :
    v = .slice none 0 0 ∨ ∃ b off spot len cap, v = .slice (some ⟨b, off, spot⟩) len cap ∧ len ≤ cap ∧ cap ≤ maxLen ∧ (0 < len → spot = none ∧ b < w.heap.size) ∧
      ∀ i, i < len → ∀ j u, ts[j]? = some u → ∃ c, w.cell? ⟨b, off + i * ts.length + j, none⟩ = some c ∧ CellOk enc P w base spare held u c := by
  obtain ⟨a0, l0, c0, rfl⟩ := hval
  obtain ⟨fuel, hf⟩ := h
  rcases Go.Deep.open_slice ht hf with ⟨hcs, _⟩ | ⟨⟨b, off, spot⟩, len, cap, m, n, D, Pl, hcs, hb, hl, hm, hmm, _, hel⟩
  · left
    simp [Value.cells] at hcs
    rw [hcs.1, hcs.2.1, hcs.2.2]
  · right
    simp [Value.cells] at hcs
    obtain ⟨rfl, rfl, rfl⟩ := hcs
    refine ⟨b, off, spot, l0, c0, rfl, hl, hm, ?_, ?_⟩
    · intro h0
      obtain ⟨cs', hcs', _⟩ := hel 0 (by rw [hmm]; split <;> omega)
      have := (cells?_get hcs').2 0 (by omega)
      have hlen := (cells?_get hcs').1
      simp [Addr.add] at this
      have h1 : w.cell? ⟨b, off, spot⟩ = some cs'[0] := by rw [this, List.getElem?_eq_getElem]
      exact ⟨World.cell?_spot h1, World.block_lt_of_cell? w _ h1⟩
    · intro i hi j u hu
      obtain ⟨cs', hcs', htr⟩ := hel i (by rw [hmm]; split <;> omega)
      obtain ⟨hlen, hget⟩ := cells?_get hcs'
      obtain ⟨hl2, hr⟩ := cellsRead d e ts _ _ _ hfl htr
      obtain ⟨c, n', y, hc1, hc2⟩ := hr j u hu
      have hj : j < ts.length := (List.getElem?_eq_some_iff.1 hu).1
      refine ⟨c, ?_, n', y, hc2⟩
      have h1 := hget j (by omega)
      rw [hc1] at h1
      have hadd : ((⟨b, off, spot⟩ : Addr).add (i * P.cellsOf e)).add j = (⟨b, off, spot⟩ : Addr).add (i * ts.length + j) := by rw [Go.Deep.add_add, hc]
      rw [hadd] at h1
      have hsp := World.cell?_spot h1
      by_cases h0 : i * ts.length + j = 0
      · simp [Addr.add, h0] at h1 hsp
        subst hsp
        simpa [show off + i * ts.length + j = off by omega] using h1
      · simp only [Addr.add, h0, if_false] at h1
        simpa [Nat.add_assoc] using h1

theorem CellOk.int {t : TypeId} {k : IntKind} {c : Value} (ht : P.underlying t = some (.int k)) (h : CellOk enc P w base spare held t c) : ∃ n, c = .int k n ∧ (Lit.int k n).wf = true := by
  obtain ⟨n, y, h⟩ := h
  obtain ⟨a, h1, _, h3⟩ := DataW.trod_int ht h
  exact ⟨a, by simpa using h1, h3⟩
theorem CellOk.bool {t : TypeId} {c : Value} (ht : P.underlying t = some .bool) (h : CellOk enc P w base spare held t c) : ∃ n, c = .bool n := by
  obtain ⟨n, y, h⟩ := h
  obtain ⟨a, h1, _⟩ := DataW.trod_bool ht h
  exact ⟨a, by simpa using h1⟩
theorem CellOk.string {t : TypeId} {c : Value} (ht : P.underlying t = some .string) (h : CellOk enc P w base spare held t c) : ∃ s, c = .string s ∧ s.size ≤ maxLen := by
  obtain ⟨n, y, h⟩ := h
  obtain ⟨a, h1, _, h3⟩ := DataW.trod_string ht h
  exact ⟨a, by simpa using h1, h3⟩
theorem wf_i64_bounds {n : Int} (h : (Lit.int .i64 n).wf = true) : -9223372036854775808 ≤ n ∧ n ≤ 9223372036854775807 := by
  simp [Lit.wf, IntKind.min, IntKind.max, IntKind.signed, IntKind.bits] at h
  omega
theorem wf_u64_bounds {n : Int} (h : (Lit.int .u64 n).wf = true) : 0 ≤ n ∧ n ≤ 18446744073709551615 := by
  simp [Lit.wf, IntKind.min, IntKind.max, IntKind.signed, IntKind.bits] at h
  omega

end
/-! ### Whole structs, loaded and stored as one -/
section
variable {P : Program} {ops : Array Oper} {rest : List Oper} {a : Act} {w : World}

/-- Type t is a struct or an array of n cells. -/
structure AggT (P : Program) (t : TypeId) (n : Nat) : Prop where
  agg : ∃ d, P.underlying t = some d ∧ (match d with | .struct _ | .array _ _ => true | _ => false) = true
  size : (P.info? t).map (·.size) = some n

/-- The cells cs lie in block b from o on. -/
def Lies (w : World) (b o : Nat) (cs : Array Value) : Prop := ∀ j (h : j < cs.size), w.cell? ⟨b, o + j, none⟩ = some cs[j]

theorem addr_add (b o j : Nat) : (⟨b, o, none⟩ : Addr).add j = ⟨b, o + j, none⟩ := by unfold Addr.add; split <;> simp_all

theorem run_loadA {t : TypeId} {b o : Nat} {cs : Array Value} (hT : AggT P t cs.size) (hL : Lies w b o cs) : (Instr.loadAt t (.pointer (some ⟨b, o, none⟩))).run P w = .ok (.agg cs) w := by
  obtain ⟨⟨d, hu, hd⟩, hi⟩ := hT
  have hl : (loadCells ⟨b, o, none⟩ cs.toList.length).run P w = .ok cs.toList.toArray w :=
    run_loadCells_list (P := P) w ⟨b, o, none⟩ cs.toList (fun j v hv => by
      obtain ⟨hj, rfl⟩ := List.getElem?_eq_some_iff.1 hv
      rw [addr_add]
      simpa using hL j (by simpa using hj))
  cases hq : P.info? t with
  | none => simp [hq] at hi
  | some i =>
    have hs : i.size = cs.size := by simpa [hq] using hi
    have hagg : (isAgg t).run P w = .ok true w := by
      cases d <;> simp at hd <;> simp [isAgg, underlying, hu]
    simp only [Instr.loadAt, Instr.sureAddr, loadVar, Sem.run_bind, Sem.run_pure, Result.andThen, hagg, if_true]
    simp only [sizeOf, typeInfo, Sem.run_bind, Sem.run_pure, Result.andThen]
    simp only [Array.length_toList, Array.toArray_toList] at hl
    simp [hq, hs, hl]

theorem run_storeA_new {t : TypeId} {T : TypeId} {c cs : Array Value} (hT : AggT P t cs.size) (hc : c.size = cs.size) (h1 : cs.all (·.oneCell') = true) :
    (Instr.storeAt t (.pointer (some ⟨w.heap.size, 0, none⟩)) (.agg cs)).run P (w.alloc (.cells c T)) = .ok () (w.alloc (.cells cs T)) := by
  obtain ⟨⟨d, hu, hd⟩, hi⟩ := hT
  have := run_storeVar_row (P := P) (w.alloc (.cells c T)) w.heap.size T t c cs (heap_alloc_last w _) hi hc h1
  simp only [Instr.storeAt, Instr.sureAddr, Sem.run_bind, Sem.run_pure, Result.andThen]
  rw [this, World.setRow_alloc_new]

theorem wpList_loadA {Q : Exit → Act → World → Prop} {t : TypeId} {b o : Nat} {cs : Array Value} (hT : AggT P t cs.size) (hL : Lies w b o cs) {dst : Option Tmp} {x : Operand} {ty : TypeId} {pos : String} {after : Array Edge}
    (hx : a.eval x = .pointer (some ⟨b, o, none⟩)) (h : wpList P ops Q rest (a.put dst (.agg cs)) w) : wpList P ops Q (⟨dst, .load t x, ty, pos, after, none⟩ :: rest) a w := by
  refine wpList_plain rfl fun K hK => ?_
  simp only [Oper.wp, execOp, hx, Sem.run_bind, run_loadA hT hL, Result.andThen, Sem.run_pure, Oper.upon]
  exact hK _ _ h

theorem wpStill_loadA {Q : Act → Prop} {t : TypeId} {b o : Nat} {cs : Array Value} (hT : AggT P t cs.size) (hL : Lies w b o cs) {dst : Option Tmp} {x : Operand} {ty : TypeId} {pos : String} {after : Array Edge}
    (hx : a.eval x = .pointer (some ⟨b, o, none⟩)) (h : wpStill P ops w Q rest (a.put dst (.agg cs))) : wpStill P ops w Q (⟨dst, .load t x, ty, pos, after, none⟩ :: rest) a := by
  refine wpStill_step fun K hK => ?_
  rw [if_pos (by rfl)]
  simp only [Oper.still, execOp, hx, Sem.run_bind, run_loadA hT hL, Result.andThen, Sem.run_pure, Oper.stillUpon]
  exact ⟨trivial, hK _ h⟩

theorem wpQuiet_loadA {C : World → Prop} {Q : Act → Prop} {t : TypeId} {b o : Nat} {cs : Array Value} (hT : AggT P t cs.size) (hL : ∀ w, C w → Lies w b o cs) {dst : Option Tmp} {x : Operand} {ty : TypeId} {pos : String} {after : Array Edge}
    (hx : a.eval x = .pointer (some ⟨b, o, none⟩)) (h : wpQuiet P ops C Q rest (a.put dst (.agg cs))) : wpQuiet P ops C Q (⟨dst, .load t x, ty, pos, after, none⟩ :: rest) a := by
  refine wpQuiet_step fun K hK => ?_
  rw [if_pos (by rfl)]
  refine ⟨.agg cs, fun w hw => ?_, hK _ h⟩
  simp only [Oper.quietAt, execOp, hx, Sem.run_bind, run_loadA hT (hL w hw), Result.andThen, Sem.run_pure, Oper.quietUpon]
  exact ⟨trivial, trivial⟩

theorem wpList_storeA_new {Q : Exit → Act → World → Prop} {t T : TypeId} {c cs : Array Value} (hT : AggT P t cs.size) (hc : c.size = cs.size) (h1 : cs.all (·.oneCell') = true) {dst : Option Tmp} {x y : Operand} {ty : TypeId} {pos : String} {after : Array Edge}
    (hx : a.eval x = .pointer (some ⟨w.heap.size, 0, none⟩)) (hy : a.eval y = .agg cs) (h : wpList P ops Q rest (a.put dst undef) (w.alloc (.cells cs T))) :
    wpList P ops Q (⟨dst, .store t x y, ty, pos, after, none⟩ :: rest) a (w.alloc (.cells c T)) := by
  refine wpList_plain rfl fun K hK => ?_
  simp only [Oper.wp, execOp, hx, hy, Sem.run_bind, run_storeA_new hT hc h1, Result.andThen, Sem.run_pure, Oper.upon]
  exact hK _ _ h
end

/-- A region that draws: all operations but the last ones only read; then these, in their forced order. -/
theorem wp_region_tail {P : Program} {id : Nat} {Q : Exit → Act → World → Prop} {a : Act} {w : World} {l : List Oper} (n : Nat) (hm : P.follows .mixedOrders = true) (hB : Region.lexTailB .any l.toArray n = true)
    (h : wpStill P l.toArray w.drew (fun a' => wpList P l.toArray Q (l.drop n) a' w.drew) (l.take n) a) : (Code.region id l.toArray true).wp P Q a w :=
  wp_region_still_tail n hm hB h

end Go.Tn

/- Numbers bit by bit, the highest first: no program. -/
namespace Go.Tn.Bits

/-- A number of m bits, the first one the highest. -/
def num (f : Nat → Bool) : Nat → Nat
  | 0 => 0
  | m + 1 => num f m * 2 + (f m).toNat
/-- How many of the first m hold. -/
def cnt (f : Nat → Bool) : Nat → Nat
  | 0 => 0
  | m + 1 => cnt f m + (f m).toNat
/-- The first below m that holds, or m. -/
def fst (f : Nat → Bool) : Nat → Nat
  | 0 => 0
  | m + 1 => if fst f m < m then fst f m else if f m then m else m + 1

theorem num_congr {f g : Nat → Bool} : ∀ {m : Nat}, (∀ j, j < m → f j = g j) → num f m = num g m
  | 0, _ => rfl
  | m + 1, h => by simp only [num]; rw [num_congr (fun j hj => h j (by omega)), h m (by omega)]
theorem cnt_congr {f g : Nat → Bool} : ∀ {m : Nat}, (∀ j, j < m → f j = g j) → cnt f m = cnt g m
  | 0, _ => rfl
  | m + 1, h => by simp only [cnt]; rw [cnt_congr (fun j hj => h j (by omega)), h m (by omega)]
theorem toNat_le (b : Bool) : b.toNat ≤ 1 := by cases b <;> decide
theorem cnt_le (f : Nat → Bool) : ∀ m, cnt f m ≤ m
  | 0 => Nat.le_refl _
  | m + 1 => by have := cnt_le f m; have := toNat_le (f m); simp only [cnt]; omega
theorem cnt_add (f : Nat → Bool) (a : Nat) : ∀ b, cnt f (a + b) = cnt f a + cnt (fun j => f (a + j)) b
  | 0 => rfl
  | b + 1 => by
    show cnt f (a + b) + (f (a + b)).toNat = _
    rw [cnt_add f a b]; simp only [cnt]; omega
theorem num_lt (f : Nat → Bool) : ∀ m, num f m < 2 ^ m
  | 0 => by simp [num]
  | m + 1 => by have := num_lt f m; have := toNat_le (f m); simp only [num, Nat.pow_succ]; omega
theorem num_add (f : Nat → Bool) (a : Nat) : ∀ b, num f (a + b) = num f a * 2 ^ b + num (fun j => f (a + j)) b
  | 0 => by simp [num]
  | b + 1 => by
    show num f (a + b) * 2 + (f (a + b)).toNat = _
    rw [num_add f a b]
    simp only [num, Nat.pow_succ]
    rw [Nat.add_mul, Nat.mul_assoc]
    omega
theorem num_le_one (f : Nat → Bool) (h : ∀ j, f j = false) : ∀ m, num f m = 0
  | 0 => rfl
  | m + 1 => by simp [num, num_le_one f h m, h m]
theorem cnt_zero (f : Nat → Bool) (h : ∀ j, f j = false) : ∀ m, cnt f m = 0
  | 0 => rfl
  | m + 1 => by simp [cnt, cnt_zero f h m, h m]

theorem testBit_num (f : Nat → Bool) : ∀ (m j : Nat), (num f m).testBit j = (decide (j < m) && f (m - 1 - j))
  | 0, j => by simp [num]
  | m + 1, j => by
    have ht : (f m).toNat < 2 := by have := toNat_le (f m); omega
    cases j with
    | zero =>
      simp only [num, Nat.testBit_zero]
      have : (num f m * 2 + (f m).toNat) % 2 = (f m).toNat := by omega
      rw [this]
      cases h : f m <;> simp [h]
    | succ j =>
      simp only [num]
      rw [Nat.testBit_succ, show (num f m * 2 + (f m).toNat) / 2 = num f m by omega, testBit_num f m j]
      have e : m + 1 - 1 - (j + 1) = m - 1 - j := by omega
      rw [e]
      simp

def setB (f : Nat → Bool) (i : Nat) (b : Bool) : Nat → Bool := fun j => if j = i then b else f j
theorem setB_same (f : Nat → Bool) (i : Nat) (b : Bool) : setB f i b i = b := by simp [setB]
theorem setB_ne (f : Nat → Bool) {i j : Nat} (b : Bool) (h : j ≠ i) : setB f i b j = f j := by simp [setB, h]
theorem setB_self (f : Nat → Bool) (i : Nat) : setB f i (f i) = f := by funext j; unfold setB; split <;> simp_all
theorem cnt_set (f : Nat → Bool) {i : Nat} (b : Bool) : ∀ {m : Nat}, i < m → cnt (setB f i b) m + (f i).toNat = cnt f m + b.toNat
  | m + 1, h => by
    simp only [cnt]
    by_cases hi : i = m
    · subst hi
      rw [setB_same, cnt_congr (g := f) (fun j hj => setB_ne f b (by omega))]
      omega
    · have := cnt_set f b (show i < m by omega)
      rw [setB_ne f b (by omega)]
      omega
theorem cnt_set_out (f : Nat → Bool) {i : Nat} (b : Bool) {m : Nat} (h : m ≤ i) : cnt (setB f i b) m = cnt f m := cnt_congr fun j hj => setB_ne f b (by omega)

theorem num_or (f : Nat → Bool) {m i : Nat} (h : i < m) : num f m ||| 2 ^ (m - 1 - i) = num (setB f i true) m := by
  apply Nat.eq_of_testBit_eq
  intro j
  rw [Nat.testBit_or, testBit_num, testBit_num, Nat.testBit_two_pow]
  by_cases hj : j < m
  · by_cases he : m - 1 - i = j
    · have : m - 1 - j = i := by omega
      simp [hj, he, this, setB]
    · have : m - 1 - j ≠ i := by omega
      simp [hj, he, setB, this]
  · have : m - 1 - i ≠ j := by omega
    simp [hj, this]
theorem num_xor (f : Nat → Bool) {m i : Nat} (h : i < m) : num f m ^^^ 2 ^ (m - 1 - i) = num (setB f i (!f i)) m := by
  apply Nat.eq_of_testBit_eq
  intro j
  rw [Nat.testBit_xor, testBit_num, testBit_num, Nat.testBit_two_pow]
  by_cases hj : j < m
  · by_cases he : m - 1 - i = j
    · have : m - 1 - j = i := by omega
      simp [hj, he, this, setB]
    · have : m - 1 - j ≠ i := by omega
      simp [hj, he, setB, this]
  · have : m - 1 - i ≠ j := by omega
    simp [hj, this]
theorem num_and (f : Nat → Bool) {m i : Nat} (h : i < m) : num f m &&& 2 ^ (m - 1 - i) = if f i then 2 ^ (m - 1 - i) else 0 := by
  apply Nat.eq_of_testBit_eq
  intro j
  rw [Nat.testBit_and, testBit_num, Nat.testBit_two_pow]
  by_cases he : m - 1 - i = j
  · have h1 : m - 1 - j = i := by omega
    have h2 : j < m := by omega
    cases hf : f i <;> simp [h1, h2, he, hf, Nat.testBit_two_pow]
  · cases hf : f i <;> simp [he, hf, Nat.testBit_two_pow]
theorem num_not (f : Nat → Bool) : ∀ m, num (fun j => !f j) m + num f m + 1 = 2 ^ m
  | 0 => rfl
  | m + 1 => by
    have := num_not f m
    have h : (!f m).toNat + (f m).toNat = 1 := by cases f m <;> rfl
    simp only [num, Nat.pow_succ]; omega

theorem fst_le (f : Nat → Bool) : ∀ m, fst f m ≤ m
  | 0 => Nat.le_refl _
  | m + 1 => by have := fst_le f m; simp only [fst]; split <;> (try split) <;> omega
theorem fst_none {f : Nat → Bool} : ∀ {m j : Nat}, j < fst f m → f j = false
  | 0, j, h => by simp [fst] at h
  | m + 1, j, h => by
    simp only [fst] at h
    by_cases h1 : fst f m < m
    · rw [if_pos h1] at h; exact fst_none h
    · rw [if_neg h1] at h
      have hm : fst f m = m := by have := fst_le f m; omega
      by_cases h2 : f m
      · rw [if_pos h2] at h; exact fst_none (m := m) (by omega)
      · rw [if_neg h2] at h
        by_cases hj : j < m
        · exact fst_none (m := m) (by omega)
        · obtain rfl : j = m := by omega
          simpa using h2
theorem fst_some {f : Nat → Bool} : ∀ {m : Nat}, fst f m < m → f (fst f m) = true
  | m + 1, h => by
    simp only [fst] at h ⊢
    by_cases h1 : fst f m < m
    · simp only [if_pos h1]; exact fst_some h1
    · simp only [if_neg h1] at h ⊢
      by_cases h2 : f m
      · simp only [if_pos h2]; exact h2
      · rw [if_neg h2] at h; omega

theorem bitLenAux_num (f : Nat → Bool) : ∀ (m fu : Nat), m ≤ fu → Go.Lib.bitLenAux fu (num f m) = m - fst f m
  | 0, fu, _ => by cases fu <;> simp [Go.Lib.bitLenAux, num, fst]
  | m + 1, 0, h => by omega
  | m + 1, fu + 1, h => by
    have ih := bitLenAux_num f m fu (by omega)
    have hle := fst_le f m
    have ht := toNat_le (f m)
    have e : num f (m + 1) = num f m * 2 + (f m).toNat := rfl
    have e2 : num f (m + 1) / 2 = num f m := by omega
    have hg : fst f (m + 1) = if fst f m < m then fst f m else if f m then m else m + 1 := rfl
    show (if num f (m + 1) = 0 then 0 else 1 + Go.Lib.bitLenAux fu (num f (m + 1) / 2)) = _
    rw [e2, ih, hg]
    by_cases h1 : fst f m < m
    · have hne : num f m ≠ 0 := by
        intro h0
        have := testBit_num f m (m - 1 - fst f m)
        rw [h0, show m - 1 - (m - 1 - fst f m) = fst f m by omega, fst_some h1] at this
        have h2 : m - 1 - fst f m < m := by omega
        simp [h2] at this
      rw [if_neg (by omega), if_pos h1]
      omega
    · have hz : num f m = 0 := by
        have : num f m = num (fun _ => false) m := num_congr fun j hj => fst_none (m := m) (by omega)
        rw [this]; exact num_le_one _ (fun _ => rfl) m
      rw [if_neg h1]
      cases hf : f m
      · rw [if_pos (by rw [e, hz, hf]; rfl)]; simp
      · rw [if_neg (by rw [e, hz, hf]; decide)]; simp; omega
theorem bitLen_num (f : Nat → Bool) {m : Nat} (h : m ≤ 64) : Go.Lib.bitLen (num f m) = m - fst f m := bitLenAux_num f m 64 h

/-- Every number is some bits. -/
theorem num_of {x m : Nat} (h : x < 2 ^ m) : x = num (fun j => x.testBit (m - 1 - j)) m := by
  apply Nat.eq_of_testBit_eq
  intro j
  rw [testBit_num]
  by_cases hj : j < m
  · have : m - 1 - (m - 1 - j) = j := by omega
    simp [hj, this]
  · simp only [hj, decide_false, Bool.false_and]
    exact Nat.testBit_lt_two_pow (Nat.lt_of_lt_of_le h (Nat.pow_le_pow_right (by omega) (by omega)))
end Go.Tn.Bits
