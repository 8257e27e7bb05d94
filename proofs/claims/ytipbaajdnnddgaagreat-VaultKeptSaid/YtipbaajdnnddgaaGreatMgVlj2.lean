/- Maps whose block is told entry by entry: any key type that Go compares, any element. No program. -/
import Derived.Test.YtipbaajdnnddgaaGreatMgVlj1
/- Maps whose block is told entry by entry: any key type that Go compares, any element. No program. -/
namespace Go.Tn
open Go.RowKit

/-- Of what was there only blocks of S may have turned. -/
structure Mod (S : Nat → Prop) (w w' : World) : Prop where
  os : w'.os = w.os
  tape : w'.tape = w.tape
  output : w'.output = w.output
  size : w.heap.size ≤ w'.heap.size
  block : ∀ k, k < w.heap.size → ¬ S k → w'.heap[k]? = w.heap[k]?

theorem Mod.refl (S : Nat → Prop) (w : World) : Mod S w w := ⟨rfl, rfl, rfl, Nat.le_refl _, fun _ _ _ => rfl⟩
theorem Mod.trans {S S' T : Nat → Prop} {a b c : World} (h : Mod S a b) (k : Mod S' b c) (hS : ∀ x, S x → T x) (hT : ∀ x, x < a.heap.size → S' x → T x) : Mod T a c :=
  ⟨k.os.trans h.os, k.tape.trans h.tape, k.output.trans h.output, Nat.le_trans h.size k.size, fun x hx hn =>
    (k.block x (Nat.lt_of_lt_of_le hx h.size) (fun hs => hn (hT x hx hs))).trans (h.block x hx (fun hs => hn (hS x hs)))⟩
theorem Mod.mono {S T : Nat → Prop} {a b : World} (h : Mod S a b) (hS : ∀ x, x < a.heap.size → S x → T x) : Mod T a b :=
  ⟨h.os, h.tape, h.output, h.size, fun x hx hn => h.block x hx (fun hs => hn (hS x hx hs))⟩
theorem Mod.below {S : Nat → Prop} {a b : World} {B : Nat} (h : Mod S a b) (hB : B ≤ a.heap.size) (hS : ∀ x, x < B → ¬ S x) : Below B a b :=
  ⟨h.os, h.tape, h.output, h.size, fun x hx => h.block x (Nat.lt_of_lt_of_le hx hB) (hS x hx)⟩
theorem Mod.of_below {a b : World} {B : Nat} (h : Below B a b) : Mod (fun x => B ≤ x) a b :=
  ⟨h.os, h.tape, h.output, h.size, fun x _ hn => h.block x (Nat.lt_of_not_le hn)⟩
theorem Mod.alloc {S : Nat → Prop} {a w : World} (h : Mod S a w) (o : Obj) : Mod S a (w.alloc o) :=
  h.trans (S' := fun _ => False) ⟨rfl, rfl, rfl, by simp, fun k hk _ => Below.heap_alloc _ _ _ hk⟩ (fun _ h => h) (fun _ _ h => h.elim)
theorem Mod.drew {S : Nat → Prop} {a w : World} (h : Mod S a w) : Mod S a w.drew := ⟨h.os, h.tape, h.output, h.size, h.block⟩
theorem Mod.drewN {S : Nat → Prop} {a w : World} (h : Mod S a w) (n : Nat) : Mod S a (w.drewN n) := ⟨h.os, h.tape, h.output, h.size, h.block⟩
theorem Mod.setCell {S : Nat → Prop} {a w : World} (h : Mod S a w) (p : Addr) (u : Value) (hp : p.block < a.heap.size → S p.block) : Mod S a (w.setCell p u) :=
  h.trans (S' := fun x => x = p.block) ⟨rfl, rfl, rfl, by simp [World.setCell], fun k hk hn => Below.heap_setCell _ _ _ _ hn⟩ (fun _ h => h) (fun x hx e => by subst e; exact hp hx)
theorem Mod.grown {S : Nat → Prop} {a w w' : World} {row : Option Nat} (h : Mod S a w) (hg : w.grownBy w' row) (hr : ∀ k, row = some k → k < a.heap.size → S k) : Mod S a w' :=
  h.trans (S' := fun x => row = some x) ⟨hg.os, hg.tape, hg.output, hg.size, fun k hk hn => hg.block k hk (fun e => hn e.symm)⟩ (fun _ h => h) (fun x hx e => hr x e hx)
theorem Mod.heap {S : Nat → Prop} {a w : World} {b : Nat} {o : Obj} (h : Mod S a w) (hb : a.heap[b]? = some o) (hn : ¬ S b) : w.heap[b]? = some o :=
  (h.block b (lt_of_block hb) hn).trans hb

/-! ### Blocks -/
theorem heap_alloc_at {w : World} {o : Obj} : (w.alloc o).heap[w.heap.size]? = some o := heap_alloc_last w o
theorem heap_alloc_lt {w : World} {o : Obj} {b : Nat} (h : b < w.heap.size) : (w.alloc o).heap[b]? = w.heap[b]? := Below.heap_alloc w o b h
theorem heap_alloc_of {w : World} {o x : Obj} {b : Nat} (h : w.heap[b]? = some x) : (w.alloc o).heap[b]? = some x := (heap_alloc_lt (lt_of_block h)).trans h
theorem heap_setCell_ne {w : World} {a : Addr} {v : Value} {b : Nat} (h : b ≠ a.block) : (w.setCell a v).heap[b]? = w.heap[b]? := Below.heap_setCell _ _ _ _ h
theorem heap_setCell_of {w : World} {a : Addr} {v : Value} {b : Nat} {x : Obj} (h : w.heap[b]? = some x) (hn : b ≠ a.block) : (w.setCell a v).heap[b]? = some x := (heap_setCell_ne hn).trans h
theorem heap_setCell_at {w : World} {b o : Nat} {v : Value} {c : Array Value} {t : TypeId} {fr : Nat × Nat} (h : w.heap[b]? = some (.cells c t fr)) : (w.setCell ⟨b, o, none⟩ v).heap[b]? = some (.cells (c.setIfInBounds o v) t fr) := by
  simp [World.setCell, Array.getElem?_modify, h]
theorem cell_of {w : World} {b o : Nat} {v : Value} {c : Array Value} {t : TypeId} {fr : Nat × Nat} (h : w.heap[b]? = some (.cells c t fr)) (hv : c[o]? = some v) : w.cell? ⟨b, o, none⟩ = some v := by
  simp [World.cell?, h, hv]
theorem free_of {w : World} {b o : Nat} {c : Array Value} {t : TypeId} (h : w.heap[b]? = some (.cells c t (0, 0))) : w.frozen? ⟨b, o, none⟩ = false := by
  simp [World.frozen?, h]
theorem lies_of {w : World} {b : Nat} {c : Array Value} {t : TypeId} {fr : Nat × Nat} (h : w.heap[b]? = some (.cells c t fr)) : Lies w b 0 c := by
  intro j hj
  rw [Nat.zero_add]
  exact cell_of h (Array.getElem?_eq_getElem hj)

/-! ### Keys -/
/-- What the model's operations on a map say of keys that are encoded so. -/
structure KeyOK (P : Program) (K : TypeId) {κ : Type} [DecidableEq κ] (enc : κ → Value) : Prop where
  now : ∃ d, P.underlying K = some d ∧ ∀ a b, Instr.sameNow d (enc a) (enc b) = none ∨ Instr.sameNow d (enc a) (enc b) = some (decide (a = b))
  eq : ∀ (w : World) a b, (Op.equal K (enc a) (enc b)).run P w = .ok (decide (a = b)) w
  chk : ∀ (e : Bool) (w : World) a, (Instr.checkKey e 10000 K (enc a)).run P w = .ok () w
  bits : ∀ a, Instr.sameBits 10000 (enc a) (enc a) = true

section
variable {κ : Type}

/-- A map's entries: key, element, stamp. -/
abbrev Ents (κ : Type) := List (κ × Value × Nat)

def ents (enc : κ → Value) (L : Ents κ) : Array MapEntry := (L.map fun e => ⟨enc e.1, e.2.1, e.2.2⟩).toArray

theorem ents_modify {enc : κ → Value} (L : Ents κ) (i : Nat) (f : κ × Value × Nat → κ × Value × Nat) (g : MapEntry → MapEntry) (h : ∀ e, L[i]? = some e → g ⟨enc e.1, e.2.1, e.2.2⟩ = ⟨enc (f e).1, (f e).2.1, (f e).2.2⟩) :
    (ents enc L).modify i g = ents enc (L.modify i f) := by
  apply Array.ext_getElem?
  intro j
  simp only [ents, Array.getElem?_modify, List.getElem?_toArray, List.getElem?_map, List.getElem?_modify]
  by_cases hij : i = j
  · subst hij
    cases hl : L[i]? with
    | none => simp
    | some e => simp [h e hl]
  · simp [hij]

theorem ents_push {enc : κ → Value} (L : Ents κ) (k : κ) (v : Value) (c : Nat) : (ents enc L).push ⟨enc k, v, c⟩ = ents enc (L ++ [(k, v, c)]) := by
  simp [ents]

variable [DecidableEq κ]

def look (k : κ) : Ents κ → Nat → Option (Nat × Value)
  | [], _ => none
  | e :: es, i => if k = e.1 then some (i, e.2.1) else look k es (i + 1)

def get (k : κ) (L : Ents κ) : Option Value := (look k L 0).map (·.2)

theorem look_none {k : κ} : ∀ {L : Ents κ} {i : Nat}, look k L i = none ↔ ∀ e ∈ L, e.1 ≠ k
  | [], i => by simp [look]
  | e :: es, i => by
    simp only [look]
    split
    · rename_i h; simp [h]
    · rename_i h
      rw [look_none]
      constructor
      · intro h2 x hx
        rcases List.mem_cons.1 hx with rfl | hx
        · exact fun e => h e.symm
        · exact h2 x hx
      · exact fun h2 x hx => h2 x (List.mem_cons_of_mem _ hx)

theorem look_some {k : κ} : ∀ {L : Ents κ} {i j : Nat} {v : Value}, look k L i = some (j, v) → ∃ n e, j = i + n ∧ L[n]? = some e ∧ e.1 = k ∧ e.2.1 = v
  | [], i, j, v, h => by simp [look] at h
  | e :: es, i, j, v, h => by
    simp only [look] at h
    split at h
    · rename_i hk
      simp at h
      exact ⟨0, e, by omega, rfl, hk.symm, h.2⟩
    · obtain ⟨n, e', hj, hn, h1, h2⟩ := look_some h
      exact ⟨n + 1, e', by omega, by simpa using hn, h1, h2⟩

theorem look_shift {k : κ} : ∀ (L : Ents κ) (i : Nat), look k L i = (look k L 0).map fun x => (i + x.1, x.2)
  | [], i => rfl
  | e :: es, i => by
    simp only [look]
    split
    · simp
    · rw [look_shift es (i + 1), look_shift es (0 + 1)]
      cases look k es 0 <;> simp [Nat.add_comm, Nat.add_left_comm]

variable {P : Program} {K : TypeId} {enc : κ → Value} {w : World}

theorem findNow_ents {d : TypeDesc} (hd : ∀ a b, Instr.sameNow d (enc a) (enc b) = none ∨ Instr.sameNow d (enc a) (enc b) = some (decide (a = b))) (k : κ) :
    ∀ (L : Ents κ) (i : Nat), Instr.findNow d (enc k) (L.map fun e => ⟨enc e.1, e.2.1, e.2.2⟩) i = none ∨ Instr.findNow d (enc k) (L.map fun e => ⟨enc e.1, e.2.1, e.2.2⟩) i = some (look k L i)
  | [], i => .inr rfl
  | e :: es, i => by
    simp only [List.map_cons, Instr.findNow]
    rcases hd k e.1 with h | h
    · left; rw [h]
    · rw [h]
      by_cases hk : k = e.1
      · right; simp [hk, look]
      · have := findNow_ents hd k es (i + 1)
        simpa [hk, look] using this

theorem findAsking_ents (hK : KeyOK P K enc) (k : κ) : ∀ (L : Ents κ) (i : Nat),
    (Instr.findAsking K (enc k) (L.map fun e => ⟨enc e.1, e.2.1, e.2.2⟩) i).run P w = .ok (look k L i) w
  | [], i => rfl
  | e :: es, i => by
    simp only [List.map_cons, Instr.findAsking, Sem.run_bind, hK.eq, Result.andThen_ok, look]
    by_cases hk : k = e.1
    · simp [hk]
    · have := findAsking_ents hK k es (i + 1)
      simpa [hk] using this

theorem findKey_ents (hK : KeyOK P K enc) (k : κ) (L : Ents κ) : (Instr.findKey K (enc k) (ents enc L).toList).run P w = .ok (look k L 0) w := by
  obtain ⟨d, hu, hd⟩ := hK.now
  have hund : (underlying K).run P w = .ok d w := by simp [underlying, hu]
  simp only [Instr.findKey, Sem.run_bind, hund, Result.andThen_ok, ents, List.toList_toArray]
  rcases findNow_ents hd k L 0 with h | h
  · rw [h]; exact findAsking_ents hK k L 0
  · rw [h]; rfl

theorem run_getObj {r : Nat} {es : Array MapEntry} {clk : Nat} (h : w.heap[r]? = some (.map es clk)) : (getObj r).run P w = .ok (.map es clk) w := by
  simp [getObj, Sem.run, h]
theorem run_getObj_iter {r : Nat} {m : Option Nat} {s : Nat} {seen : Array Nat} {l : Nat} (h : w.heap[r]? = some (.mapIter m s seen l)) : (getObj r).run P w = .ok (.mapIter m s seen l) w := by
  simp [getObj, Sem.run, h]

/-- The block holds another object. -/
def setObjW (w : World) (r : Nat) (o : Obj) : World := { w with heap := w.heap.setIfInBounds r o }

theorem run_setObj {r : Nat} {es : Array MapEntry} {clk : Nat} {o : Obj} (h : w.heap[r]? = some (.map es clk)) : (setObj r o).run P w = .ok () (setObjW w r o) := by
  simp [setObj, Sem.run, h, setObjW]
theorem run_setObj_iter {r : Nat} {m : Option Nat} {s : Nat} {seen : Array Nat} {l : Nat} {o : Obj} (h : w.heap[r]? = some (.mapIter m s seen l)) : (setObj r o).run P w = .ok () (setObjW w r o) := by
  simp [setObj, Sem.run, h, setObjW]

theorem setObjW_at {r : Nat} {o : Obj} (h : r < w.heap.size) : (setObjW w r o).heap[r]? = some o := by simp [setObjW, h]
theorem setObjW_ne {r b : Nat} {o : Obj} (h : b ≠ r) : (setObjW w r o).heap[b]? = w.heap[b]? := by
  simp only [setObjW]
  rw [Array.getElem?_setIfInBounds_ne (by omega)]
theorem setObjW_mod (r : Nat) (o : Obj) : Mod (fun x => x = r) w (setObjW w r o) :=
  ⟨rfl, rfl, rfl, by simp [setObjW], fun k _ hn => setObjW_ne hn⟩
@[simp] theorem setObjW_size (r : Nat) (o : Obj) : (setObjW w r o).heap.size = w.heap.size := by simp [setObjW]

/-! ### The operations -/
/-- The element at a key, or the element type's zero. -/
def getD (k : κ) (L : Ents κ) (z : Value) : Value := (get k L).getD z

theorem run_lookup {T E m clk : Nat} {L : Ents κ} {z : Value} (hK : KeyOK P K enc) (hT : P.underlying T = some (.map K E)) (hz : ∀ w, (zeroValue E).run P w = .ok z w) (hb : w.heap[m]? = some (.map (ents enc L) clk)) (k : κ) :
    (Instr.lookup T (.map (some m)) (enc k) false).run P w = .ok (getD k L z) w := by
  have hund : (underlying T).run P w = .ok (.map K E) w := by simp [underlying, hT]
  simp only [Instr.lookup, Sem.run_bind, hund, Result.andThen_ok, run_getObj hb, Sem.run_pure, hK.chk, findKey_ents hK]
  cases h : look k L 0 with
  | none => simp [getD, get, h, hz]
  | some x => simp [getD, get, h]

theorem run_lookup_ok {T E m clk : Nat} {L : Ents κ} {z : Value} (hK : KeyOK P K enc) (hT : P.underlying T = some (.map K E)) (hz : ∀ w, (zeroValue E).run P w = .ok z w) (hb : w.heap[m]? = some (.map (ents enc L) clk)) (k : κ) :
    (Instr.lookup T (.map (some m)) (enc k) true).run P w = .ok (.tuple #[getD k L z, .bool (get k L).isSome]) w := by
  have hund : (underlying T).run P w = .ok (.map K E) w := by simp [underlying, hT]
  simp only [Instr.lookup, Sem.run_bind, hund, Result.andThen_ok, run_getObj hb, Sem.run_pure, hK.chk, findKey_ents hK]
  cases h : look k L 0 with
  | none => simp [getD, get, h, hz]
  | some x => simp [getD, get, h]

/-- What 'm[k] = v' makes of the entries. -/
def upd (k : κ) (v : Value) (L : Ents κ) (clk : Nat) : Ents κ :=
  match look k L 0 with
  | some (i, _) => L.modify i fun e => (e.1, v, e.2.2)
  | none => L ++ [(k, v, clk)]
def updClk (k : κ) (L : Ents κ) (clk : Nat) : Nat := if (look k L 0).isSome then clk else clk + 1

theorem run_keyThatStays (hK : KeyOK P K enc) (k : κ) : (Instr.keyThatStays (enc k) (enc k)).run P w = .ok (enc k) w := by
  simp [Instr.keyThatStays, hK.bits]

theorem run_mapUpdate {T E m clk : Nat} {L : Ents κ} (hK : KeyOK P K enc) (hT : P.underlying T = some (.map K E)) (hb : w.heap[m]? = some (.map (ents enc L) clk)) (k : κ) (v : Value) :
    (Instr.mapUpdate T (.map (some m)) (enc k) v).run P w = .ok () (setObjW w m (.map (ents enc (upd k v L clk)) (updClk k L clk))) := by
  have hund : (underlying T).run P w = .ok (.map K E) w := by simp [underlying, hT]
  simp only [Instr.mapUpdate, Sem.run_bind, hund, Result.andThen_ok, run_getObj hb, hK.chk, findKey_ents hK]
  cases h : look k L 0 with
  | none =>
    simp only [run_setObj hb, upd, updClk, h, ents_push]
    rfl
  | some x =>
    obtain ⟨i, u⟩ := x
    obtain ⟨n, e, hj, hn, h1, h2⟩ := look_some h
    obtain rfl : i = n := by omega
    have hkey : (((ents enc L)[i]?).map (·.key)).getD (enc k) = enc k := by simp [ents, hn, h1]
    have hm := ents_modify (enc := enc) L i (fun e => (e.1, v, e.2.2)) (fun e => { e with key := enc k, val := v }) (fun e' he' => by rw [hn] at he'; cases he'; simp [h1])
    simp only [Sem.run_bind, hkey, run_keyThatStays hK, Result.andThen_ok, run_setObj hb, upd, updClk, h, Option.isSome_some, if_true, hm]

/-- What 'delete(m, k)' makes of the entries. -/
def del (k : κ) (L : Ents κ) : Ents κ := match look k L 0 with | some (i, _) => L.eraseIdx i | none => L

theorem run_delete {T E m clk : Nat} {L : Ents κ} {tk ty : TypeId} (hK : KeyOK P K enc) (hT : P.underlying T = some (.map K E)) (hb : w.heap[m]? = some (.map (ents enc L) clk)) (k : κ) :
    (Builtin.delete_ #[T, tk] ty #[.map (some m), enc k]).run P w = .ok (.tuple #[]) (setObjW w m (.map (ents enc (del k L)) clk)) := by
  have hund : (underlying T).run P w = .ok (.map K E) w := by simp [underlying, hT]
  have e1 : ∀ (x y : TypeId), (#[x, y] : Array TypeId)[0]? = some x := fun _ _ => rfl
  have e2 : ∀ (x y : Value), (#[x, y] : Array Value)[0]? = some x := fun _ _ => rfl
  have e3 : ∀ (x y : Value), (#[x, y] : Array Value)[1]? = some y := fun _ _ => rfl
  simp only [Builtin.delete_, e1, e2, e3, Sem.run_bind, hund, Result.andThen_ok, run_getObj hb, hK.chk, findKey_ents hK]
  cases h : look k L 0 with
  | none => simp only [Sem.run_bind, run_setObj hb, del, h, Result.andThen_ok, Sem.run_pure]
  | some x =>
    obtain ⟨i, u⟩ := x
    obtain ⟨n, e, hj, hn, h1, h2⟩ := look_some h
    obtain rfl : i = n := by omega
    have hlt : i < L.length := (List.getElem?_eq_some_iff.1 hn).1
    have hm : (ents enc L).eraseIdxIfInBounds i = ents enc (L.eraseIdx i) := by
      unfold Array.eraseIdxIfInBounds
      rw [dif_pos (by simpa [ents] using hlt)]
      apply Array.ext_getElem?
      intro j
      simp [ents, List.getElem?_eraseIdx, Array.getElem?_eraseIdx]
      split <;> rfl
    simp only [Sem.run_bind, run_setObj hb, del, h, hm, Result.andThen_ok, Sem.run_pure]

theorem run_mapEntry {T E m clk : Nat} {L : Ents κ} {z : Value} (hK : KeyOK P K enc) (hT : P.underlying T = some (.map K E)) (hz : ∀ w, (zeroValue E).run P w = .ok z w) (hb : w.heap[m]? = some (.map (ents enc L) clk)) (k : κ) :
    (∃ n e, L[n]? = some e ∧ e.1 = k ∧ look k L 0 = some (n, e.2.1) ∧ (Instr.mapEntry T (.map (some m)) (enc k)).run P w = .ok (.tuple #[e.2.1, .int .i64 e.2.2]) (setObjW w m (.map (ents enc L) clk))) ∨
    (look k L 0 = none ∧ (Instr.mapEntry T (.map (some m)) (enc k)).run P w = .ok (.tuple #[z, .int .i64 clk]) (setObjW w m (.map (ents enc (L ++ [(k, z, clk)])) (clk + 1)))) := by
  have hund : (underlying T).run P w = .ok (.map K E) w := by simp [underlying, hT]
  simp only [Instr.mapEntry, Sem.run_bind, hund, Result.andThen_ok, run_getObj hb, hK.chk, findKey_ents hK]
  cases h : look k L 0 with
  | none =>
    right
    simp only [Sem.run_bind, hz, Result.andThen_ok, run_setObj hb, ents_push, Sem.run_pure]
    exact ⟨trivial, rfl⟩
  | some x =>
    left
    obtain ⟨i, u⟩ := x
    obtain ⟨n, e, hj, hn, h1, h2⟩ := look_some h
    obtain rfl : i = n := by omega
    have hkey : (((ents enc L)[i]?).map (·.key)).getD (enc k) = enc k := by simp [ents, hn, h1]
    have hborn : (((ents enc L)[i]?).map (fun x => (x.born : Int))).getD 0 = (e.2.2 : Int) := by simp [ents, hn]
    have hborn' : ((((ents enc L)[i]?).map (fun x => x.born)).getD 0 : Nat) = e.2.2 := by simp [ents, hn]
    have hm := ents_modify (enc := enc) L i (fun e => e) (fun e => { e with key := enc k }) (fun e' he' => by rw [hn] at he'; cases he'; simp [h1])
    have hid : L.modify i (fun e => e) = L := List.modify_id i L
    refine ⟨i, e, hn, h1, by rw [h2], ?_⟩
    simp only [Sem.run_bind, hkey, hborn, hborn', run_keyThatStays hK, Result.andThen_ok, run_setObj hb, hm, hid, Sem.run_pure, h2, goInt]

omit [DecidableEq κ] in
theorem run_entryStore {T m clk n : Nat} {L : Ents κ} {e : κ × Value × Nat} (hb : w.heap[m]? = some (.map (ents enc L) clk)) (hn : L[n]? = some e) (hu : ∀ i e', L[i]? = some e' → e'.2.2 = e.2.2 → i = n) (v : Value) :
    (Instr.entryStore T (.map (some m)) (.int .i64 e.2.2) v).run P w = .ok () (setObjW w m (.map (ents enc (L.modify n fun e => (e.1, v, e.2.2))) clk)) := by
  have hf : (ents enc L).findIdx? (fun x => (x.born : Int) == (e.2.2 : Int)) = some n := by
    rw [Array.findIdx?_eq_some_iff_getElem]
    have hlt : n < L.length := (List.getElem?_eq_some_iff.1 hn).1
    have he : L[n] = e := (List.getElem?_eq_some_iff.1 hn).2
    refine ⟨by simpa [ents] using hlt, by simp [ents, he], fun j hj => ?_⟩
    simp only [ents, List.getElem_toArray, List.getElem_map, beq_iff_eq, Bool.not_eq_true, beq_eq_false_iff_ne, ne_eq]
    intro hc
    have := hu j L[j] (List.getElem?_eq_getElem (by omega)) (by omega)
    omega
  have hm := ents_modify (enc := enc) L n (fun e => (e.1, v, e.2.2)) (fun e => { e with val := v }) (fun e' _ => rfl)
  simp only [Instr.entryStore, Sem.run_bind, run_getObj hb, Result.andThen_ok, asInt, asIntOf, Sem.run_pure, hf, run_setObj hb, hm]

/-! ### A range over a map into which nothing is put meanwhile -/
omit [DecidableEq κ] in
theorem run_range {T E m clk : Nat} {L : Ents κ} (hT : P.underlying T = some (.map K E)) (hb : w.heap[m]? = some (.map (ents enc L) clk)) :
    (Instr.range T (.map (some m))).run P w = .ok (.pointer (some ⟨w.heap.size, 0, none⟩)) (w.alloc (.mapIter (some m) clk #[] clk)) := by
  have hund : (underlying T).run P w = .ok (.map K E) w := by simp [underlying, hT]
  simp only [Instr.range, Sem.run_bind, hund, Result.andThen_ok, run_getObj hb, Sem.run_pure, run_newObj]
  rfl

omit [DecidableEq κ] in
theorem run_next {m it clk : Nat} {L : Ents κ} {seen : Array Nat} {ty : TypeId} (hb : w.heap[m]? = some (.map (ents enc L) clk)) (hi : w.heap[it]? = some (.mapIter (some m) clk seen clk)) (hw : ∀ e ∈ L, e.2.2 < clk) :
    ((∀ e ∈ L, e.2.2 ∈ seen) ∧ (Instr.next (.pointer (some ⟨it, 0, none⟩)) false ty).run P w = .ok (.tuple #[.bool false]) w) ∨
    ∃ e ∈ L, e.2.2 ∉ seen ∧ ∃ nd, (Instr.next (.pointer (some ⟨it, 0, none⟩)) false ty).run P w = .ok (.tuple #[.bool true, enc e.1, e.2.1]) (setObjW (w.drewN nd) it (.mapIter (some m) clk (seen.push e.2.2) clk)) := by
  have hg1 : (!seen.isEmpty && !(ents enc L).isEmpty && (ents enc L).all (fun x => decide (x.born ≥ clk))) = false := by
    cases L with
    | nil => simp [ents]
    | cons e L =>
      have := hw e (by simp)
      have h2 : (ents enc (e :: L)).all (fun x => decide (x.born ≥ clk)) = false := by
        simp only [ents, List.map_cons, List.all_toArray, List.all_cons, Bool.and_eq_false_iff, decide_eq_false_iff_not]
        left; omega
      rw [h2]; simp
  have hnew : ((ents enc L).filter fun e => !seen.contains e.born).filter (fun e => decide (e.born ≥ clk)) = #[] := by
    apply Array.filter_eq_empty_iff.2
    intro x hx
    rw [Array.mem_filter] at hx
    have hx1 := hx.1
    simp only [ents, List.mem_toArray, List.mem_map] at hx1
    obtain ⟨e, he, rfl⟩ := hx1
    have := hw e he
    simp; omega
  have hold : ((ents enc L).filter fun e => !seen.contains e.born).filter (fun e => decide (e.born < clk)) = (ents enc L).filter fun e => !seen.contains e.born := by
    apply Array.filter_eq_self.2
    intro x hx
    rw [Array.mem_filter] at hx
    have hx1 := hx.1
    simp only [ents, List.mem_toArray, List.mem_map] at hx1
    obtain ⟨e, he, rfl⟩ := hx1
    have := hw e he
    simp; omega
  generalize hleft : ((ents enc L).filter fun e => !seen.contains e.born) = left at hnew hold
  have hmem : ∀ x ∈ left, ∃ e ∈ L, e.2.2 ∉ seen ∧ x = ⟨enc e.1, e.2.1, e.2.2⟩ := by
    intro x hx
    rw [← hleft, Array.mem_filter] at hx
    obtain ⟨hx1, hx2⟩ := hx
    simp only [ents, List.mem_toArray, List.mem_map] at hx1
    obtain ⟨e, he, rfl⟩ := hx1
    refine ⟨e, he, ?_, rfl⟩
    simpa using hx2
  by_cases hempty : left = #[]
  · left
    refine ⟨fun e he => ?_, ?_⟩
    · have : (⟨enc e.1, e.2.1, e.2.2⟩ : MapEntry) ∉ left := by rw [hempty]; simp
      rw [← hleft, Array.mem_filter] at this
      simp only [ents, List.mem_toArray, List.mem_map, not_and] at this
      have := this ⟨e, he, rfl⟩
      simpa using this
    · simp only [Instr.next, Sem.run_bind, run_getObj_iter hi, Result.andThen_ok, run_getObj hb, hg1, hleft, hnew, hold, hempty]
      simp [Sem.run, Question.forced]
  · right
    have hsz : 0 < left.size := Array.size_pos_iff.2 hempty
    have hemp : left.isEmpty = false := by simpa using hempty
    by_cases h1 : left.size ≤ 1
    · obtain ⟨e, he, hns, hx⟩ := hmem left[0] (Array.getElem_mem hsz)
      refine ⟨e, he, hns, 0, ?_⟩
      have hg : left[0]? = some ⟨enc e.1, e.2.1, e.2.2⟩ := by rw [Array.getElem?_eq_getElem hsz, hx]
      rw [show w.drewN 0 = w from rfl]
      simp only [Instr.next, Sem.run_bind, run_getObj_iter hi, Result.andThen_ok, run_getObj hb, hg1, hleft, hnew, hold, hemp]
      simp [Question.forced, h1, hg, run_setObj_iter hi]
    · have hlt : w.tape w.drawn (.mapNext left.size) % left.size < left.size := Nat.mod_lt _ hsz
      obtain ⟨e, he, hns, hx⟩ := hmem left[w.tape w.drawn (.mapNext left.size) % left.size] (Array.getElem_mem hlt)
      refine ⟨e, he, hns, 1, ?_⟩
      have hg : left[w.tape w.drawn (.mapNext left.size) % left.size]? = some ⟨enc e.1, e.2.1, e.2.2⟩ := by rw [Array.getElem?_eq_getElem hlt, hx]
      have hi' : w.drew.heap[it]? = some (.mapIter (some m) clk seen clk) := hi
      rw [show w.drewN 1 = w.drew from rfl]
      simp only [Instr.next, Sem.run_bind, run_getObj_iter hi, Result.andThen_ok, run_getObj hb, hg1, hleft, hnew, hold, hemp]
      simp [Question.forced, h1, Question.cut, hg, run_setObj_iter hi']

omit [DecidableEq κ] in
theorem run_entry {m it clk n : Nat} {L : Ents κ} {seen : Array Nat} {e : κ × Value × Nat} (hb : w.heap[m]? = some (.map (ents enc L) clk)) (hi : w.heap[it]? = some (.mapIter (some m) clk (seen.push e.2.2) clk)) (hn : L[n]? = some e)
    (hu : ∀ i e', L[i]? = some e' → e'.2.2 = e.2.2 → i = n) :
    (Instr.entry (.pointer (some ⟨it, 0, none⟩))).run P w = .ok (.tuple #[enc e.1, e.2.1]) w := by
  have hf : (ents enc L).find? (fun x => x.born == e.2.2) = some ⟨enc e.1, e.2.1, e.2.2⟩ := by
    rw [Array.find?_eq_some_iff_getElem]
    have hlt : n < L.length := (List.getElem?_eq_some_iff.1 hn).1
    have he : L[n] = e := (List.getElem?_eq_some_iff.1 hn).2
    refine ⟨by simp, n, by simpa [ents] using hlt, by simp [ents, he], fun j hj => ?_⟩
    simp only [ents, List.getElem_toArray, List.getElem_map, Bool.not_eq_true', beq_eq_false_iff_ne, ne_eq]
    intro hc
    have := hu j L[j] (List.getElem?_eq_getElem (by omega)) hc
    omega
  simp [Instr.entry, run_getObj_iter hi, run_getObj hb, hf]

/-! ### What the entries hold, key by key -/
structure WF (L : Ents κ) (clk : Nat) : Prop where
  keys : L.Pairwise (fun a b => a.1 ≠ b.1)
  stamps : L.Pairwise (fun a b => a.2.2 ≠ b.2.2)
  lt : ∀ e ∈ L, e.2.2 < clk

omit [DecidableEq κ] in
theorem WF.nil (clk : Nat) : WF ([] : Ents κ) clk := ⟨.nil, .nil, by simp⟩

theorem pairwise_idx {α : Type} {R : α → α → Prop} {L : List α} (h : L.Pairwise R) {i j : Nat} {a b : α} (hi : L[i]? = some a) (hj : L[j]? = some b) (hij : i < j) : R a b := by
  obtain ⟨h1, rfl⟩ := List.getElem?_eq_some_iff.1 hi
  obtain ⟨h2, rfl⟩ := List.getElem?_eq_some_iff.1 hj
  exact List.pairwise_iff_getElem.1 h i j h1 h2 hij

omit [DecidableEq κ] in
theorem WF.stamp {L : Ents κ} {clk : Nat} (h : WF L clk) {n : Nat} {e : κ × Value × Nat} (hn : L[n]? = some e) : ∀ i e', L[i]? = some e' → e'.2.2 = e.2.2 → i = n := by
  intro i e' hi he
  rcases Nat.lt_trichotomy i n with hlt | rfl | hgt
  · exact absurd he (pairwise_idx h.stamps hi hn hlt)
  · rfl
  · exact absurd he.symm (pairwise_idx h.stamps hn hi hgt)

omit [DecidableEq κ] in
theorem WF.key {L : Ents κ} {clk : Nat} (h : WF L clk) {n : Nat} {e : κ × Value × Nat} (hn : L[n]? = some e) : ∀ i e', L[i]? = some e' → e'.1 = e.1 → i = n := by
  intro i e' hi he
  rcases Nat.lt_trichotomy i n with hlt | rfl | hgt
  · exact absurd he (pairwise_idx h.keys hi hn hlt)
  · rfl
  · exact absurd he.symm (pairwise_idx h.keys hn hi hgt)

theorem get_eq {k : κ} {L : Ents κ} : get k L = (L.find? (fun e => decide (k = e.1))).map (·.2.1) := by
  unfold get
  induction L with
  | nil => rfl
  | cons e L ih =>
    simp only [look, List.find?_cons]
    by_cases h : k = e.1
    · simp [h]
    · rw [look_shift]
      simp only [h, if_false, decide_false]
      rw [← ih]
      cases look k L 0 <;> rfl

theorem get_of_mem {L : Ents κ} {clk : Nat} (h : WF L clk) {e : κ × Value × Nat} (he : e ∈ L) : get e.1 L = some e.2.1 := by
  obtain ⟨n, hn, rfl⟩ := List.getElem_of_mem he
  unfold get
  cases hl : look L[n].1 L 0 with
  | none => exact absurd rfl (look_none.1 hl _ he)
  | some x =>
    obtain ⟨i, u⟩ := x
    obtain ⟨j, e', hj, hi, h1, h2⟩ := look_some hl
    have := h.key (List.getElem?_eq_getElem hn) j e' hi h1
    subst this
    rw [List.getElem?_eq_getElem hn] at hi
    cases hi
    simp [h2]

theorem get_some {k : κ} {L : Ents κ} {v : Value} (h : get k L = some v) : ∃ b, (k, v, b) ∈ L := by
  unfold get at h
  cases hl : look k L 0 with
  | none => simp [hl] at h
  | some x =>
    obtain ⟨i, u⟩ := x
    obtain ⟨j, e', hj, hi, h1, h2⟩ := look_some hl
    simp [hl] at h
    refine ⟨e'.2.2, ?_⟩
    have := List.mem_of_getElem? hi
    rw [← h, ← h1, ← h2]
    exact this

theorem get_none {k : κ} {L : Ents κ} : get k L = none ↔ ∀ e ∈ L, e.1 ≠ k := by
  unfold get
  rw [Option.map_eq_none_iff]
  exact look_none

theorem mem_upd {k : κ} {v : Value} {L : Ents κ} {clk : Nat} (h : WF L clk) {e : κ × Value × Nat} (he : e ∈ upd k v L clk) : (e ∈ L ∧ e.1 ≠ k) ∨ (e.1 = k ∧ e.2.1 = v ∧ ((∃ u, (k, u, e.2.2) ∈ L) ∨ (e.2.2 = clk ∧ get k L = none))) := by
  unfold upd at he
  cases hl : look k L 0 with
  | none =>
    simp only [hl, List.mem_append, List.mem_singleton] at he
    rcases he with he | rfl
    · exact .inl ⟨he, look_none.1 hl e he⟩
    · exact .inr ⟨rfl, rfl, .inr ⟨rfl, by simp [get, hl]⟩⟩
  | some x =>
    obtain ⟨i, u⟩ := x
    simp only [hl] at he
    obtain ⟨j, e0, hj, hi, h1, h2⟩ := look_some hl
    obtain rfl : i = j := by omega
    obtain ⟨n, hn⟩ := List.getElem?_of_mem he
    rw [List.getElem?_modify] at hn
    by_cases hin : i = n
    · subst hin
      simp [hi] at hn
      subst hn
      refine .inr ⟨h1, rfl, .inl ⟨e0.2.1, ?_⟩⟩
      have := List.mem_of_getElem? hi
      rw [← h1]; exact this
    · simp [hin] at hn
      refine .inl ⟨List.mem_of_getElem? hn, fun hk => hin ?_⟩
      exact (h.key hi n e hn (hk.trans h1.symm)).symm

theorem WF.upd {k : κ} {v : Value} {L : Ents κ} {clk : Nat} (h : WF L clk) : WF (upd k v L clk) (updClk k L clk) := by
  unfold Go.Tn.upd updClk
  cases hl : look k L 0 with
  | none =>
    refine ⟨List.pairwise_append.2 ⟨h.keys, by simp, fun a ha b hb => ?_⟩, List.pairwise_append.2 ⟨h.stamps, by simp, fun a ha b hb => ?_⟩, fun e he => ?_⟩
    · simp at hb; subst hb; exact look_none.1 hl a ha
    · simp at hb; subst hb; have := h.lt a ha; simp; omega
    · simp at he
      rcases he with he | rfl
      · have := h.lt e he; simp; omega
      · simp
  | some x =>
    obtain ⟨i, u⟩ := x
    have hget : ∀ n : Nat, ((L.modify i fun e => (e.1, v, e.2.2))[n]?).map (fun e : κ × Value × Nat => (e.1, e.2.2)) = (L[n]?).map (fun e : κ × Value × Nat => (e.1, e.2.2)) := by
      intro n
      rw [List.getElem?_modify]
      by_cases hin : i = n
      · subst hin; cases L[i]? <;> simp
      · simp [hin]
    have hmap : (L.modify i fun e => (e.1, v, e.2.2)).map (fun e : κ × Value × Nat => (e.1, e.2.2)) = L.map (fun e => (e.1, e.2.2)) := by
      apply List.ext_getElem?
      intro n
      rw [List.getElem?_map, List.getElem?_map]
      exact hget n
    have hk := h.keys
    have hs := h.stamps
    have e1 : (L.map (fun e => (e.1, e.2.2))).Pairwise (fun a b => a.1 ≠ b.1) := List.pairwise_map.2 hk
    have e2 : (L.map (fun e => (e.1, e.2.2))).Pairwise (fun a b => a.2 ≠ b.2) := List.pairwise_map.2 hs
    rw [← hmap] at e1 e2
    refine ⟨(List.pairwise_map (f := fun e : κ × Value × Nat => (e.1, e.2.2)) (R := fun a b => a.1 ≠ b.1)).1 e1, (List.pairwise_map (f := fun e : κ × Value × Nat => (e.1, e.2.2)) (R := fun a b => a.2 ≠ b.2)).1 e2, fun e he => ?_⟩
    have : (e.1, e.2.2) ∈ L.map (fun e => (e.1, e.2.2)) := by rw [← hmap]; exact List.mem_map.2 ⟨e, he, rfl⟩
    obtain ⟨e', he', hh⟩ := List.mem_map.1 this
    have := h.lt e' he'
    simp only [Prod.mk.injEq] at hh
    simp; omega

theorem get_upd {j k : κ} {v : Value} {L : Ents κ} {clk : Nat} (h : WF L clk) : get j (Go.Tn.upd k v L clk) = if j = k then some v else get j L := by
  have hw := h.upd (k := k) (v := v)
  have hmemk : ∃ b, (k, v, b) ∈ Go.Tn.upd k v L clk := by
    unfold Go.Tn.upd
    cases hl : look k L 0 with
    | none => exact ⟨clk, by simp⟩
    | some x =>
      obtain ⟨i, u⟩ := x
      obtain ⟨n, e0, hj, hi, h1, h2⟩ := look_some hl
      obtain rfl : i = n := by omega
      refine ⟨e0.2.2, List.mem_of_getElem? (i := i) ?_⟩
      rw [List.getElem?_modify]
      simp [hi, h1]
  by_cases hjk : j = k
  · subst hjk
    obtain ⟨b, hb⟩ := hmemk
    rw [if_pos rfl]
    exact get_of_mem hw hb
  · rw [if_neg hjk]
    cases hg : get j L with
    | none =>
      rw [get_none] at hg ⊢
      intro e he hej
      rcases mem_upd h he with ⟨h1, _⟩ | ⟨h1, _⟩
      · exact hg e h1 hej
      · exact hjk (hej.symm.trans h1)
    | some u =>
      obtain ⟨b, hb⟩ := get_some hg
      have : (j, u, b) ∈ Go.Tn.upd k v L clk := by
        unfold Go.Tn.upd
        cases hl : look k L 0 with
        | none => simp [hb]
        | some x =>
          obtain ⟨i, u'⟩ := x
          obtain ⟨n, e0, hj', hi, h1, h2⟩ := look_some hl
          obtain rfl : i = n := by omega
          obtain ⟨q, hq⟩ := List.getElem?_of_mem hb
          refine List.mem_of_getElem? (i := q) ?_
          rw [List.getElem?_modify]
          have : i ≠ q := by
            rintro rfl
            rw [hi] at hq
            cases hq
            exact hjk h1
          simp [this, hq]
      exact get_of_mem hw this

theorem del_sub {k : κ} {L : Ents κ} : (del k L).Sublist L := by
  unfold del
  cases look k L 0 with
  | none => exact .refl _
  | some x => exact List.eraseIdx_sublist _ _

theorem WF.del {k : κ} {L : Ents κ} {clk : Nat} (h : WF L clk) : WF (del k L) clk :=
  ⟨h.keys.sublist del_sub, h.stamps.sublist del_sub, fun e he => h.lt e (del_sub.subset he)⟩

theorem mem_del {k : κ} {L : Ents κ} {clk : Nat} (h : WF L clk) {e : κ × Value × Nat} : e ∈ Go.Tn.del k L ↔ e ∈ L ∧ e.1 ≠ k := by
  unfold Go.Tn.del
  cases hl : look k L 0 with
  | none => exact ⟨fun he => ⟨he, look_none.1 hl e he⟩, fun he => he.1⟩
  | some x =>
    obtain ⟨i, u⟩ := x
    obtain ⟨n, e0, hj, hi, h1, h2⟩ := look_some hl
    obtain rfl : i = n := by omega
    simp only []
    rw [List.mem_eraseIdx_iff_getElem?]
    constructor
    · rintro ⟨q, hq, hqe⟩
      exact ⟨List.mem_of_getElem? hqe, fun hk => hq (h.key hi q e hqe (hk.trans h1.symm))⟩
    · rintro ⟨he, hk⟩
      obtain ⟨q, hq⟩ := List.getElem?_of_mem he
      refine ⟨q, ?_, hq⟩
      rintro rfl
      rw [hi] at hq; cases hq
      exact hk h1

theorem get_del {j k : κ} {L : Ents κ} {clk : Nat} (h : WF L clk) : get j (Go.Tn.del k L) = if j = k then none else get j L := by
  by_cases hjk : j = k
  · subst hjk
    rw [if_pos rfl, get_none]
    intro e he
    exact ((mem_del h).1 he).2
  · rw [if_neg hjk]
    cases hg : get j L with
    | none =>
      rw [get_none] at hg ⊢
      intro e he hej
      exact hg e ((mem_del h).1 he).1 hej
    | some u =>
      obtain ⟨b, hb⟩ := get_some hg
      exact get_of_mem h.del ((mem_del h).2 ⟨hb, hjk⟩)

end
end Go.Tn
