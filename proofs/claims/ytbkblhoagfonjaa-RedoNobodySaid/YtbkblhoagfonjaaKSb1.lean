/- Rows of bits and the bytes that they make: no program. -/
import Derived.WalkKit
import Derived.ProofKit
import Derived.OpenShut
import Derived.ShutString
import Derived.ChangeOld
import Derived.Below
import Derived.Deep.Slices
import Derived.WalkSpells
import Derived.WalkLawsBesides
import Derived.Still
import Derived.StillTailTactics
import Derived.Deep.QuietTactic
import Derived.BigQuiet
import Derived.Deep.WholeRow
import Derived.Deep.MidRow
import Derived.Lib.Hide
/- General lemmas: no program. What a deep reading says of each single cell; change of worlds; maps. -/
namespace Go.Tn
open Go.ChangeShapes Go.WideShapes Go.ChangeAt Go.RowKit

theorem below_drewN {B : Nat} {a w : World} (h : Below B a w) (n : Nat) : Below B a (w.drewN n) := h.trans ⟨rfl, rfl, rfl, Nat.le_refl _, fun _ _ => rfl⟩

/-! ### A struct's cells, each with its own type -/
def flatFields (P : Program) (g : TypeId → Option (List TypeId)) : List Field → Nat → Option (List TypeId)
  | [], _ => some []
  | f :: fs, o => if f.offset = o then (g f.type).bind fun ts => if P.cellsOf f.type = ts.length then (flatFields P g fs (o + ts.length)).map (ts ++ ·) else none else none
/-- The types of the cells of a value of type t, one for each cell; none where the layout is not the plain one. -/
def flat (P : Program) : Nat → TypeId → Option (List TypeId)
  | 0, _ => none
  | d + 1, t =>
    match P.underlying t with
    | some (.struct fs) => (flatFields P (flat P d) fs.toList 0).bind fun ts => if P.cellsOf t = ts.length then some ts else none
    | some (.array _ _) => none
    | some _ => if P.cellsOf t = 1 then some [t] else none
    | none => none

section
variable {H : Type} {enc : TypeId × Value → H} {P : Program} {w : World} {base : Nat} {spare : Nat → Bool} {held : Bool}

/-- What the reading says of each cell. -/
def CellsRead (enc : TypeId × Value → H) (P : Program) (w : World) (base : Nat) (spare : Nat → Bool) (held : Bool) (ts : List TypeId) (cs : List Value) : Prop :=
  cs.length = ts.length ∧ ∀ (i : Nat) (t : TypeId), ts[i]? = some t → ∃ c n y, cs[i]? = some c ∧ DataW.trod enc P w base spare held n t [c] = some y

theorem CellsRead.append {ts us : List TypeId} {cs ds : List Value} (h : CellsRead enc P w base spare held ts cs) (k : CellsRead enc P w base spare held us ds) :
    CellsRead enc P w base spare held (ts ++ us) (cs ++ ds) := by
  refine ⟨by simp [h.1, k.1], fun i t hi => ?_⟩
  by_cases hlt : i < ts.length
  · rw [List.getElem?_append_left hlt] at hi
    rw [List.getElem?_append_left (by rw [h.1]; exact hlt)]
    exact h.2 i t hi
  · rw [List.getElem?_append_right (by omega)] at hi
    rw [List.getElem?_append_right (by rw [h.1]; omega), h.1]
    exact k.2 _ t hi

theorem cellsRead_fields (d : Nat) (ih : ∀ (t : TypeId) (ts : List TypeId) (fuel : Nat) (cs : List Value) x, flat P d t = some ts → DataW.trod enc P w base spare held fuel t cs = some x → CellsRead enc P w base spare held ts cs) :
    ∀ (fs : List Field) (o : Nat) (ts : List TypeId) (cs : List Value) (n : Nat), flatFields P (flat P d) fs o = some ts → cs.length = o + ts.length →
      (∀ f ∈ fs, ∃ x, DataW.trod enc P w base spare held n f.type ((cs.drop f.offset).take (P.cellsOf f.type)) = some x) → CellsRead enc P w base spare held ts (cs.drop o)
  | [], o, ts, cs, n, h, hl, _ => by
    simp [flatFields] at h
    subst h
    refine ⟨by simp at hl ⊢; omega, fun i t hi => by simp at hi⟩
  | f :: fs, o, ts, cs, n, h, hl, hf => by
    simp only [flatFields] at h
    split at h
    · rename_i ho
      cases h1 : flat P d f.type with
      | none => simp [h1] at h
      | some us =>
        simp only [h1, Option.bind_some] at h
        split at h
        · rename_i hc
          cases h2 : flatFields P (flat P d) fs (o + us.length) with
          | none => simp [h2] at h
          | some vs =>
            simp [h2] at h
            subst h
            obtain ⟨x, hx⟩ := hf f (by simp)
            have a := ih _ _ _ _ _ h1 hx
            have b := cellsRead_fields d ih fs (o + us.length) vs cs n h2 (by simp at hl; omega) (fun g hg => hf g (by simp [hg]))
            have e : cs.drop o = (cs.drop f.offset).take (P.cellsOf f.type) ++ cs.drop (o + us.length) := by
              rw [ho, hc, ← List.drop_drop, List.take_append_drop]
            rw [e]
            exact a.append b
        · simp at h
    · simp at h

theorem cellsRead : ∀ (d : Nat) (t : TypeId) (ts : List TypeId) (fuel : Nat) (cs : List Value) x, flat P d t = some ts → DataW.trod enc P w base spare held fuel t cs = some x → CellsRead enc P w base spare held ts cs
  | 0, t, ts, fuel, cs, x, h, _ => by simp [flat] at h
  | d + 1, t, ts, fuel, cs, x, h, hx => by
    simp only [flat] at h
    split at h
    · rename_i fs hu
      cases h1 : flatFields P (flat P d) fs.toList 0 with
      | none => simp [h1] at h
      | some us =>
        simp only [h1, Option.bind_some] at h
        split at h
        · rename_i hc
          simp at h
          subst h
          obtain ⟨xs, n, _, _, hl, hlen, hf⟩ := DataW.trod_struct hu hx
          have := cellsRead_fields d (fun t ts fuel cs x => cellsRead d t ts fuel cs x) fs.toList 0 us cs n h1 (by omega) (fun f hm => by
            obtain ⟨i, hi, rfl⟩ := List.getElem_of_mem hm
            have hi' : i < fs.size := by simpa using hi
            have := hf i fs[i] (by simp [hi'])
            exact ⟨xs[i], by simpa [hlen, hi'] using this⟩)
          simpa using this
        · simp at h
    · simp at h
    · rename_i hne1 hne2 hu
      split at h
      · simp at h
        subst h
        have hone : ∃ c, cs = [c] := by
          cases fuel with
          | zero => simp [DataW.trod] at hx
          | succ fuel =>
            unfold DataW.trod at hx
            split at hx <;> first
              | exact ⟨_, rfl⟩
              | (exfalso; rename_i h2; exact hne1 _ (Option.some.inj (hu.symm.trans h2)))
              | (exfalso; rename_i h2; exact hne2 _ _ (Option.some.inj (hu.symm.trans h2)))
              | simp at hx
        obtain ⟨c, rfl⟩ := hone
        refine ⟨rfl, fun i u hi => ?_⟩
        match i, hi with
        | 0, hi => simp at hi; subst hi; exact ⟨c, fuel, x, rfl, hx⟩
      · simp at h
    · simp at h

/-! ### A slice of such values that came in -/
/-- A cell of type t reads. -/
def CellOk (enc : TypeId × Value → H) (P : Program) (w : World) (base : Nat) (spare : Nat → Bool) (held : Bool) (t : TypeId) (c : Value) : Prop := ∃ n y, DataW.trod enc P w base spare held n t [c] = some y

theorem cells?_get {a : Addr} {n : Nat} {cs : List Value} (h : w.cells? base a n = some cs) : cs.length = n ∧ ∀ i, i < n → w.cell? (a.add i) = cs[i]? := by
  obtain ⟨_, h2, h3⟩ := World.cells?_some h
  exact ⟨h2, h3⟩

/-- The slice is nil; or each cell of each of its elements is there, and reads as its type asks. -/
theorem open_flat {t e : TypeId} {d : Nat} {ts : List TypeId} {v : Value} {x : DataW H} {ps : List MemPlace} (ht : P.underlying t = some (.slice e)) (hfl : flat P d e = some ts) (hc : P.cellsOf e = ts.length) (hpos : 0 < ts.length)
    (h : DataW.Trod enc P w base spare held t v x ps) (hval : ∃ a n c, v = .slice a n c) :
    v = .slice none 0 0 ∨ ∃ b off spot len cap, v = .slice (some ⟨b, off, spot⟩) len cap ∧ len ≤ cap ∧ cap ≤ maxLen ∧ (0 < len → spot = none ∧ b < w.heap.size) ∧
      ∀ i, i < len → ∀ j u, ts[j]? = some u → ∃ c, w.cell? ⟨b, off + i * ts.length + j, none⟩ = some c ∧ CellOk enc P w base spare held u c := by
  obtain ⟨a0, l0, c0, rfl⟩ := hval
  obtain ⟨fuel, hf⟩ := h
  rcases Go.Deep.open_slice ht hf with ⟨hcs, _⟩ | ⟨⟨b, off, spot⟩, len, cap, m, n, D, Pl, hcs, hb, hl, hm, hmm, _, hel⟩
  · left
    simp [Value.cells] at hcs
    rw [hcs.1, hcs.2.1, hcs.2.2]
  · right
    simp [Value.cells] at hcs
    obtain ⟨rfl, rfl, rfl⟩ := hcs
    refine ⟨b, off, spot, l0, c0, rfl, hl, hm, ?_, ?_⟩
    · intro h0
      obtain ⟨cs', hcs', _⟩ := hel 0 (by rw [hmm]; split <;> omega)
      have := (cells?_get hcs').2 0 (by omega)
      have hlen := (cells?_get hcs').1
      simp [Addr.add] at this
      have h1 : w.cell? ⟨b, off, spot⟩ = some cs'[0] := by rw [this, List.getElem?_eq_getElem]
      exact ⟨World.cell?_spot h1, World.block_lt_of_cell? w _ h1⟩
    · intro i hi j u hu
      obtain ⟨cs', hcs', htr⟩ := hel i (by rw [hmm]; split <;> omega)
      obtain ⟨hlen, hget⟩ := cells?_get hcs'
      obtain ⟨hl2, hr⟩ := cellsRead d e ts _ _ _ hfl htr
      obtain ⟨c, n', y, hc1, hc2⟩ := hr j u hu
      have hj : j < ts.length := (List.getElem?_eq_some_iff.1 hu).1
      refine ⟨c, ?_, n', y, hc2⟩
      have h1 := hget j (by omega)
      rw [hc1] at h1
      have hadd : ((⟨b, off, spot⟩ : Addr).add (i * P.cellsOf e)).add j = (⟨b, off, spot⟩ : Addr).add (i * ts.length + j) := by rw [Go.Deep.add_add, hc]
      rw [hadd] at h1
      have hsp := World.cell?_spot h1
      by_cases h0 : i * ts.length + j = 0
      · simp [Addr.add, h0] at h1 hsp
        subst hsp
        simpa [show off + i * ts.length + j = off by omega] using h1
      · simp only [Addr.add, h0, if_false] at h1
        simpa [Nat.add_assoc] using h1

theorem CellOk.int {t : TypeId} {k : IntKind} {c : Value} (ht : P.underlying t = some (.int k)) (h : CellOk enc P w base spare held t c) : ∃ n, c = .int k n ∧ (Lit.int k n).wf = true := by
  obtain ⟨n, y, h⟩ := h
  obtain ⟨a, h1, _, h3⟩ := DataW.trod_int ht h
  exact ⟨a, by simpa using h1, h3⟩
theorem CellOk.bool {t : TypeId} {c : Value} (ht : P.underlying t = some .bool) (h : CellOk enc P w base spare held t c) : ∃ n, c = .bool n := by
  obtain ⟨n, y, h⟩ := h
  obtain ⟨a, h1, _⟩ := DataW.trod_bool ht h
  exact ⟨a, by simpa using h1⟩
theorem CellOk.string {t : TypeId} {c : Value} (ht : P.underlying t = some .string) (h : CellOk enc P w base spare held t c) : ∃ s, c = .string s ∧ s.size ≤ maxLen := by
  obtain ⟨n, y, h⟩ := h
  obtain ⟨a, h1, _, h3⟩ := DataW.trod_string ht h
  exact ⟨a, by simpa using h1, h3⟩
theorem wf_i64_bounds {n : Int} (h : (Lit.int .i64 n).wf = true) : -9223372036854775808 ≤ n ∧ n ≤ 9223372036854775807 := by
  simp [Lit.wf, IntKind.min, IntKind.max, IntKind.signed, IntKind.bits] at h
  omega
theorem wf_u64_bounds {n : Int} (h : (Lit.int .u64 n).wf = true) : 0 ≤ n ∧ n ≤ 18446744073709551615 := by
  simp [Lit.wf, IntKind.min, IntKind.max, IntKind.signed, IntKind.bits] at h
  omega

end
/-! ### Whole structs, loaded and stored as one -/
section
variable {P : Program} {ops : Array Oper} {rest : List Oper} {a : Act} {w : World}

/-- Type t is a struct or an array of n cells. -/
structure AggT (P : Program) (t : TypeId) (n : Nat) : Prop where
  agg : ∃ d, P.underlying t = some d ∧ (match d with | .struct _ | .array _ _ => true | _ => false) = true
  size : (P.info? t).map (·.size) = some n

/-- The cells cs lie in block b from o on. -/
def Lies (w : World) (b o : Nat) (cs : Array Value) : Prop := ∀ j (h : j < cs.size), w.cell? ⟨b, o + j, none⟩ = some cs[j]

theorem addr_add (b o j : Nat) : (⟨b, o, none⟩ : Addr).add j = ⟨b, o + j, none⟩ := by unfold Addr.add; split <;> simp_all

theorem run_loadA {t : TypeId} {b o : Nat} {cs : Array Value} (hT : AggT P t cs.size) (hL : Lies w b o cs) : (Instr.loadAt t (.pointer (some ⟨b, o, none⟩))).run P w = .ok (.agg cs) w := by
  obtain ⟨⟨d, hu, hd⟩, hi⟩ := hT
  have hl : (loadCells ⟨b, o, none⟩ cs.toList.length).run P w = .ok cs.toList.toArray w :=
    run_loadCells_list (P := P) w ⟨b, o, none⟩ cs.toList (fun j v hv => by
      obtain ⟨hj, rfl⟩ := List.getElem?_eq_some_iff.1 hv
      rw [addr_add]
      simpa using hL j (by simpa using hj))
  cases hq : P.info? t with
  | none => simp [hq] at hi
  | some i =>
    have hs : i.size = cs.size := by simpa [hq] using hi
    have hagg : (isAgg t).run P w = .ok true w := by
      cases d <;> simp at hd <;> simp [isAgg, underlying, hu]
    simp only [Instr.loadAt, Instr.sureAddr, loadVar, Sem.run_bind, Sem.run_pure, Result.andThen, hagg, if_true]
    simp only [sizeOf, typeInfo, Sem.run_bind, Sem.run_pure, Result.andThen]
    simp only [Array.length_toList, Array.toArray_toList] at hl
    simp [hq, hs, hl]

theorem run_storeA_new {t : TypeId} {T : TypeId} {c cs : Array Value} (hT : AggT P t cs.size) (hc : c.size = cs.size) (h1 : cs.all (·.oneCell') = true) :
    (Instr.storeAt t (.pointer (some ⟨w.heap.size, 0, none⟩)) (.agg cs)).run P (w.alloc (.cells c T)) = .ok () (w.alloc (.cells cs T)) := by
  obtain ⟨⟨d, hu, hd⟩, hi⟩ := hT
  have := run_storeVar_row (P := P) (w.alloc (.cells c T)) w.heap.size T t c cs (heap_alloc_last w _) hi hc h1
  simp only [Instr.storeAt, Instr.sureAddr, Sem.run_bind, Sem.run_pure, Result.andThen]
  rw [this, World.setRow_alloc_new]

theorem wpList_loadA {Q : Exit → Act → World → Prop} {t : TypeId} {b o : Nat} {cs : Array Value} (hT : AggT P t cs.size) (hL : Lies w b o cs) {dst : Option Tmp} {x : Operand} {ty : TypeId} {pos : String} {after : Array Edge}
    (hx : a.eval x = .pointer (some ⟨b, o, none⟩)) (h : wpList P ops Q rest (a.put dst (.agg cs)) w) : wpList P ops Q (⟨dst, .load t x, ty, pos, after, none⟩ :: rest) a w := by
  refine wpList_plain rfl fun K hK => ?_
  simp only [Oper.wp, execOp, hx, Sem.run_bind, run_loadA hT hL, Result.andThen, Sem.run_pure, Oper.upon]
  exact hK _ _ h

theorem wpStill_loadA {Q : Act → Prop} {t : TypeId} {b o : Nat} {cs : Array Value} (hT : AggT P t cs.size) (hL : Lies w b o cs) {dst : Option Tmp} {x : Operand} {ty : TypeId} {pos : String} {after : Array Edge}
    (hx : a.eval x = .pointer (some ⟨b, o, none⟩)) (h : wpStill P ops w Q rest (a.put dst (.agg cs))) : wpStill P ops w Q (⟨dst, .load t x, ty, pos, after, none⟩ :: rest) a := by
  refine wpStill_step fun K hK => ?_
  rw [if_pos (by rfl)]
  simp only [Oper.still, execOp, hx, Sem.run_bind, run_loadA hT hL, Result.andThen, Sem.run_pure, Oper.stillUpon]
  exact ⟨trivial, hK _ h⟩

theorem wpQuiet_loadA {C : World → Prop} {Q : Act → Prop} {t : TypeId} {b o : Nat} {cs : Array Value} (hT : AggT P t cs.size) (hL : ∀ w, C w → Lies w b o cs) {dst : Option Tmp} {x : Operand} {ty : TypeId} {pos : String} {after : Array Edge}
    (hx : a.eval x = .pointer (some ⟨b, o, none⟩)) (h : wpQuiet P ops C Q rest (a.put dst (.agg cs))) : wpQuiet P ops C Q (⟨dst, .load t x, ty, pos, after, none⟩ :: rest) a := by
  refine wpQuiet_step fun K hK => ?_
  rw [if_pos (by rfl)]
  refine ⟨.agg cs, fun w hw => ?_, hK _ h⟩
  simp only [Oper.quietAt, execOp, hx, Sem.run_bind, run_loadA hT (hL w hw), Result.andThen, Sem.run_pure, Oper.quietUpon]
  exact ⟨trivial, trivial⟩

theorem wpList_storeA_new {Q : Exit → Act → World → Prop} {t T : TypeId} {c cs : Array Value} (hT : AggT P t cs.size) (hc : c.size = cs.size) (h1 : cs.all (·.oneCell') = true) {dst : Option Tmp} {x y : Operand} {ty : TypeId} {pos : String} {after : Array Edge}
    (hx : a.eval x = .pointer (some ⟨w.heap.size, 0, none⟩)) (hy : a.eval y = .agg cs) (h : wpList P ops Q rest (a.put dst undef) (w.alloc (.cells cs T))) :
    wpList P ops Q (⟨dst, .store t x y, ty, pos, after, none⟩ :: rest) a (w.alloc (.cells c T)) := by
  refine wpList_plain rfl fun K hK => ?_
  simp only [Oper.wp, execOp, hx, hy, Sem.run_bind, run_storeA_new hT hc h1, Result.andThen, Sem.run_pure, Oper.upon]
  exact hK _ _ h
end

/-- A region that draws: all operations but the last ones only read; then these, in their forced order. -/
theorem wp_region_tail {P : Program} {id : Nat} {Q : Exit → Act → World → Prop} {a : Act} {w : World} {l : List Oper} (n : Nat) (hm : P.follows .mixedOrders = true) (hB : Region.lexTailB .any l.toArray n = true)
    (h : wpStill P l.toArray w.drew (fun a' => wpList P l.toArray Q (l.drop n) a' w.drew) (l.take n) a) : (Code.region id l.toArray true).wp P Q a w :=
  wp_region_still_tail n hm hB h

end Go.Tn

/- Rows of bits and the bytes that they make: no program. -/
namespace Go.Tn.Bt

/-- A number's last n bits, the highest first. -/
def bitsN (x : Nat) : Nat → List Bool
  | 0 => []
  | n + 1 => x.testBit n :: bitsN x n
/-- The number that bits are. -/
def natOf : List Bool → Nat
  | [] => 0
  | b :: r => b.toNat * 2 ^ r.length + natOf r
/-- The byte that begins with at most eight bits. -/
def byteOf (l : List Bool) : Nat := natOf l * 2 ^ (8 - l.length)
def packN : Nat → List Bool → List Nat
  | 0, _ => []
  | n + 1, l => byteOf (l.take 8) :: packN n (l.drop 8)
/-- The bytes that bits make, the last one filled with noughts. -/
def pack (l : List Bool) : List Nat := packN ((l.length + 7) / 8) l
/-- The bits of bytes. -/
def unpack (b : List Nat) : List Bool := b.flatMap (fun x => bitsN x 8)

theorem bitsN_len (x : Nat) : ∀ n, (bitsN x n).length = n
  | 0 => rfl
  | n + 1 => by simp [bitsN, bitsN_len x n]
theorem natOf_append : ∀ a b : List Bool, natOf (a ++ b) = natOf a * 2 ^ b.length + natOf b
  | [], b => by simp [natOf]
  | x :: a, b => by
    simp only [List.cons_append, natOf, natOf_append a b, List.length_append, Nat.pow_add, Nat.add_mul, Nat.mul_assoc, Nat.add_assoc]
theorem natOf_lt : ∀ a : List Bool, natOf a < 2 ^ a.length
  | [] => by simp [natOf]
  | x :: a => by
    have := natOf_lt a
    have hx : x.toNat ≤ 1 := by cases x <;> decide
    have : x.toNat * 2 ^ a.length ≤ 1 * 2 ^ a.length := Nat.mul_le_mul_right _ hx
    simp only [natOf, List.length_cons, Nat.pow_succ]
    omega
theorem natOf_bitsN (x : Nat) : ∀ n, natOf (bitsN x n) = x % 2 ^ n
  | 0 => by simp [natOf, bitsN, Nat.mod_one]
  | n + 1 => by
    simp only [bitsN, natOf, bitsN_len, natOf_bitsN x n]
    rw [Nat.mod_pow_succ, Nat.testBit_eq_decide_div_mod_eq]
    have h : x / 2 ^ n % 2 < 2 := Nat.mod_lt _ (by decide)
    have : (decide (x / 2 ^ n % 2 = 1)).toNat = x / 2 ^ n % 2 := by
      by_cases h1 : x / 2 ^ n % 2 = 1
      · simp [h1]
      · have : x / 2 ^ n % 2 = 0 := by omega
        simp [this]
    rw [this, Nat.mul_comm, Nat.add_comm]
theorem bitsN_add (x m : Nat) : ∀ k, bitsN x (k + m) = bitsN (x / 2 ^ m) k ++ bitsN x m
  | 0 => by simp [bitsN]
  | k + 1 => by
    rw [Nat.succ_add]
    simp only [bitsN, List.cons_append, bitsN_add x m k]
    rw [Nat.testBit_div_two_pow, Nat.add_comm k m]
theorem bitsN_congr {x y : Nat} : ∀ {n : Nat}, x % 2 ^ n = y % 2 ^ n → bitsN x n = bitsN y n
  | 0, _ => rfl
  | n + 1, h => by
    have h1 : x.testBit n = y.testBit n := by
      have e1 := Nat.testBit_mod_two_pow x (n + 1) n
      have e2 := Nat.testBit_mod_two_pow y (n + 1) n
      rw [h] at e1
      rw [e1] at e2
      simpa using e2
    have h2 : x % 2 ^ n = y % 2 ^ n := by
      have := congrArg (· % 2 ^ n) h
      simpa [Nat.mod_mod_of_dvd _ (Nat.pow_dvd_pow 2 (Nat.le_succ n))] using this
    simp only [bitsN, h1, bitsN_congr h2]
theorem bitsN_natOf : ∀ l : List Bool, bitsN (natOf l) l.length = l
  | [] => rfl
  | b :: r => by
    have hlt := natOf_lt r
    have h0 : (natOf (b :: r)) % 2 ^ r.length = natOf r % 2 ^ r.length := by simp only [natOf]; rw [Nat.add_comm, Nat.add_mul_mod_self_right]
    simp only [List.length_cons, bitsN]
    rw [bitsN_congr h0, bitsN_natOf r]
    congr 1
    simp only [natOf]
    rw [Nat.testBit_eq_decide_div_mod_eq, Nat.add_comm, Nat.add_mul_div_right _ _ (Nat.two_pow_pos _), Nat.div_eq_of_lt hlt]
    cases b <;> simp
theorem byteOf_lt {l : List Bool} (h : l.length ≤ 8) : byteOf l < 256 := by
  have h1 := natOf_lt l
  unfold byteOf
  calc natOf l * 2 ^ (8 - l.length) < 2 ^ l.length * 2 ^ (8 - l.length) := (Nat.mul_lt_mul_right (Nat.two_pow_pos _)).2 h1
    _ = 256 := by rw [← Nat.pow_add, show l.length + (8 - l.length) = 8 by omega]
theorem packN_len : ∀ n l, (packN n l).length = n
  | 0, _ => rfl
  | n + 1, l => by simp [packN, packN_len n]
theorem pack_len (l : List Bool) : (pack l).length = (l.length + 7) / 8 := packN_len _ _
theorem packN_lt : ∀ n l, ∀ x ∈ packN n l, x < 256
  | 0, _, _, h => by cases h
  | n + 1, l, x, h => by
    rcases List.mem_cons.1 h with rfl | h
    · exact byteOf_lt (by simp [List.length_take]; omega)
    · exact packN_lt n _ x h
theorem pack_lt (l : List Bool) : ∀ x ∈ pack l, x < 256 := packN_lt _ _
theorem packN_append : ∀ (q : Nat) (a b : List Bool) (m : Nat), a.length = 8 * q → packN (q + m) (a ++ b) = packN q a ++ packN m b
  | 0, a, b, m, h => by
    have : a = [] := List.eq_nil_of_length_eq_zero (by omega)
    subst this
    simp [packN]
  | q + 1, a, b, m, h => by
    rw [Nat.succ_add]
    simp only [packN, List.cons_append]
    rw [List.take_append_of_le_length (by omega), List.drop_append_of_le_length (by omega), packN_append q _ b m (by rw [List.length_drop]; omega)]
theorem pack_append {a : List Bool} (b : List Bool) {q : Nat} (h : a.length = 8 * q) : pack (a ++ b) = pack a ++ pack b := by
  unfold pack
  rw [List.length_append, h, show (8 * q + b.length + 7) / 8 = q + (b.length + 7) / 8 by omega, packN_append q a b _ h]
  rw [show (8 * q + 7) / 8 = q by omega]
theorem pack_nil : pack [] = [] := rfl
theorem pack_small {l : List Bool} (h0 : 0 < l.length) (h : l.length ≤ 8) : pack l = [byteOf l] := by
  unfold pack
  rw [show (l.length + 7) / 8 = 1 by omega]
  simp [packN, List.take_of_length_le h]
theorem byteOf_append {a b : List Bool} (h : a.length + b.length ≤ 8) : byteOf (a ++ b) = byteOf a ||| (natOf b * 2 ^ (8 - (a.length + b.length))) := by
  have e : byteOf a = (natOf a) <<< (8 - a.length) := by rw [Nat.shiftLeft_eq]; rfl
  have hb := natOf_lt b
  have hb' : natOf b * 2 ^ (8 - (a.length + b.length)) < 2 ^ (8 - a.length) := by
    calc natOf b * 2 ^ (8 - (a.length + b.length)) < 2 ^ b.length * 2 ^ (8 - (a.length + b.length)) := (Nat.mul_lt_mul_right (Nat.two_pow_pos _)).2 hb
      _ = 2 ^ (8 - a.length) := by rw [← Nat.pow_add, show b.length + (8 - (a.length + b.length)) = 8 - a.length by omega]
  rw [e, ← Nat.shiftLeft_add_eq_or_of_lt hb', Nat.shiftLeft_eq]
  unfold byteOf
  rw [natOf_append, List.length_append, Nat.add_mul, Nat.mul_assoc, ← Nat.pow_add, show b.length + (8 - (a.length + b.length)) = 8 - a.length by omega]
/-- How many bits of the last byte are used. -/
def used (l : List Bool) : Nat := if l.length % 8 = 0 then 8 else l.length % 8
theorem split8 (l : List Bool) : ∃ a t : List Bool, l = a ++ t ∧ a.length = 8 * (l.length / 8) ∧ t.length = l.length % 8 :=
  ⟨l.take (8 * (l.length / 8)), l.drop (8 * (l.length / 8)), (List.take_append_drop _ _).symm, by rw [List.length_take]; omega, by rw [List.length_drop]; omega⟩
/-- More bits in the last byte. -/
theorem pack_more {l p : List Bool} (h0 : 0 < l.length % 8) (hp : l.length % 8 + p.length ≤ 8) :
    pack (l ++ p) = (pack l).set ((pack l).length - 1) ((pack l).getLastD 0 ||| (natOf p * 2 ^ (8 - (l.length % 8 + p.length)))) := by
  obtain ⟨a, t, rfl, ha, ht⟩ := split8 l
  generalize (a ++ t).length / 8 = q at ha
  have htl : t.length < 8 := by rw [ht]; exact Nat.mod_lt _ (by decide)
  rw [← ht] at h0 hp ⊢
  rw [List.append_assoc, pack_append _ ha, pack_append _ ha, pack_small (l := t) h0 (by omega), pack_small (l := t ++ p) (by rw [List.length_append]; omega) (by rw [List.length_append]; omega), byteOf_append hp]
  simp
theorem pack_new {l p : List Bool} (h0 : l.length % 8 = 0) (h1 : 0 < p.length) (hp : p.length ≤ 8) : pack (l ++ p) = pack l ++ [natOf p * 2 ^ (8 - p.length)] := by
  rw [pack_append p (q := l.length / 8) (by omega), pack_small h1 hp]
  rfl
theorem unpack_append (a b : List Nat) : unpack (a ++ b) = unpack a ++ unpack b := by simp [unpack]
theorem unpack_len : ∀ b : List Nat, (unpack b).length = 8 * b.length
  | [] => rfl
  | x :: b => by
    show (bitsN x 8 ++ unpack b).length = _
    rw [List.length_append, bitsN_len, unpack_len b, List.length_cons]
    omega
theorem natOf_zeros : ∀ k, natOf (List.replicate k false) = 0
  | 0 => rfl
  | k + 1 => by simp [List.replicate_succ, natOf, natOf_zeros k]
theorem bitsN_byteOf {l : List Bool} (h : l.length ≤ 8) : bitsN (byteOf l) 8 = l ++ List.replicate (8 - l.length) false := by
  have e : byteOf l = natOf (l ++ List.replicate (8 - l.length) false) := by rw [natOf_append, natOf_zeros, List.length_replicate]; rfl
  have e2 : 8 = (l ++ List.replicate (8 - l.length) false).length := by rw [List.length_append, List.length_replicate]; omega
  rw [e]
  conv => lhs; arg 2; rw [e2]
  exact bitsN_natOf _
theorem unpack_packN : ∀ (n : Nat) (l : List Bool), l.length ≤ 8 * n → unpack (packN n l) = l ++ List.replicate (8 * n - l.length) false
  | 0, l, h => by
    have : l = [] := List.eq_nil_of_length_eq_zero (by omega)
    subst this
    rfl
  | n + 1, l, h => by
    have hl : (l.take 8).length ≤ 8 := by rw [List.length_take]; omega
    show bitsN (byteOf (l.take 8)) 8 ++ unpack (packN n (l.drop 8)) = _
    rw [bitsN_byteOf hl, unpack_packN n (l.drop 8) (by rw [List.length_drop]; omega), List.length_drop]
    by_cases h8 : 8 ≤ l.length
    · rw [List.length_take, Nat.min_eq_left h8]
      rw [show 8 - 8 = 0 by rfl, List.replicate_zero, List.append_nil, ← List.append_assoc, List.take_append_drop]
      rw [show 8 * n - (l.length - 8) = 8 * (n + 1) - l.length by omega]
    · rw [List.take_of_length_le (by omega), List.drop_eq_nil_of_le (by omega), List.nil_append, List.append_assoc, List.replicate_append_replicate]
      rw [show 8 - l.length + (8 * n - (l.length - 8)) = 8 * (n + 1) - l.length by omega]
theorem unpack_pack (l : List Bool) : unpack (pack l) = l ++ List.replicate (8 * ((l.length + 7) / 8) - l.length) false := unpack_packN _ _ (by omega)
theorem pack_unpack : ∀ b : List Nat, (∀ x ∈ b, x < 256) → pack (unpack b) = b
  | [], _ => rfl
  | x :: b, h => by
    show pack (bitsN x 8 ++ unpack b) = _
    rw [pack_append (q := 1) _ (by rw [bitsN_len]), pack_unpack b fun y hy => h y (List.mem_cons_of_mem _ hy), pack_small (by rw [bitsN_len]; decide) (by rw [bitsN_len]; decide)]
    unfold byteOf
    rw [natOf_bitsN, bitsN_len]
    have := h x List.mem_cons_self
    simp [Nat.mod_eq_of_lt this]
end Go.Tn.Bt
