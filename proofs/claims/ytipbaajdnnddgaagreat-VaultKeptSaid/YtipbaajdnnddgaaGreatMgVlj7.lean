/- Shifts, bits of small numbers, as natural numbers. No program. -/
import Derived.Test.YtipbaajdnnddgaaGreatMgVlj6
import Derived.Test.YtipbaajdnnddgaaGreatMgVlj5
import Derived.Laws.Tables
import Derived.Great.BuildSlice
import Derived.Laws.Cover3
import Derived.Laws.AppendOwn
import Derived.Maps.AppendAt
import Derived.Laws.StructEq
import Derived.ChangeKeysEq
import Derived.Test.YtipbaajdnnddgaaGreatMgVlj4
import Derived.Laws.Shifts
/- Structs of many cells: built, laid in new memory. No program. -/
namespace Go.Tn
open Go.RowKit
variable {P : Program} {ops : Array Oper} {rest : List Oper} {a : Act} {w : World} {Q : Exit → Act → World → Prop}

theorem foldl_lay (off : Nat) : ∀ (v : List Value) (j : Nat) (cells : List Value), off + j + v.length ≤ cells.length →
    ((v.zipIdx j).foldl (fun (cs : Array Value) (x : Value × Nat) => cs.setIfInBounds (off + x.2) x.1) cells.toArray) = (cells.take (off + j) ++ v ++ cells.drop (off + j + v.length)).toArray
  | [], j, cells, _ => by simp
  | x :: v, j, cells, h => by
    rw [List.length_cons] at h
    have e : cells.toArray.setIfInBounds (off + j) x = (cells.set (off + j) x).toArray := by simp
    simp only [List.zipIdx_cons, List.foldl_cons, e]
    rw [foldl_lay off v (j + 1) _ (by rw [List.length_set]; omega)]
    congr 1
    have h1 : (cells.set (off + j) x).take (off + (j + 1)) = cells.take (off + j) ++ [x] := by
      rw [← Nat.add_assoc, List.take_add_one, List.take_set_of_le (Nat.le_refl _), List.getElem?_set_self (by omega)]
      rfl
    rw [h1, List.drop_set_of_lt (by omega), List.length_cons]
    simp only [List.append_assoc, List.cons_append, List.nil_append]
    rw [show off + (j + 1) + v.length = off + j + (v.length + 1) by omega]
theorem fill_all {k : Nat} {cells cs : Array Value} {place : Nat → Option (Nat × Nat)} (hp : place 0 = some (0, k)) (hc : cells.size = k) (hs : cs.size = k) : Instr.fill place cells [(0, .agg cs)] = some cs := by
  have h := foldl_lay 0 cs.toList 0 cells.toList (by simp; omega)
  have e : ((Value.agg cs).cells.zipIdx.foldl (fun (xs : Array Value) (x : Value × Nat) => xs.setIfInBounds (0 + x.2) x.1) cells) = cs := by
    rw [← Array.foldl_toList, Array.toList_zipIdx]
    refine Eq.trans h ?_
    apply Array.ext'
    simp [List.drop_of_length_le, hc, hs]
  have hsz : (Value.agg cs).cells.size = k := hs
  simp only [Instr.fill, hp]
  rw [if_neg (by simp [hsz, hc])]
  exact congrArg some e
/-- '[n]T(s)': where the elements lie. -/
theorem exec_arrayAt {ρ : Operand → Value} {dst : Option Tmp} {ty : TypeId} {pos : String} {after : Array Edge} {g : Option (Nat × Bool)} {t e : TypeId} {n len cap : Nat} {ao : Option Addr} {x : Operand} (hu : P.underlying t = some (.array n e)) (hn : n ≤ len) (hx : ρ x = .slice ao len cap) :
    (execOp ρ ⟨dst, .sliceToArrayPointer t x, ty, pos, after, g⟩).run P w = .ok (.value (.pointer ao)) w := by
  simp only [execOp, hx, Sem.run_bind, run_arrayAt w t e n ao len cap hu hn, Result.andThen_ok, Sem.run_pure]
/-- 'T{..}' -/
theorem exec_buildA {ρ : Operand → Value} {dst : Option Tmp} {ty : TypeId} {pos : String} {after : Array Edge} {g : Option (Nat × Bool)} {t : TypeId} {parts : Array (Nat × Operand)} {vals : List (Nat × Value)} {cells : Array Value} (hp : parts.toList.map (fun x => (x.1, ρ x.2)) = vals) (hb : P.built t vals = some cells) :
    (execOp ρ ⟨dst, .build t parts, ty, pos, after, g⟩).run P w = .ok (.value (.agg cells)) w :=
  exec_build (vals := vals.toArray) hp (run_build w t _ cells hb)
/-- '[]T{x}' -/
theorem exec_buildSliceA {ρ : Operand → Value} {dst : Option Tmp} {ty : TypeId} {pos : String} {after : Array Edge} {g : Option (Nat × Bool)} {t e : TypeId} {k : Nat} {cells : Array Value} {x : Operand} (hu : P.underlying t = some (.slice e)) (hi : (P.info? e).map (fun i => (i.zero.map (fun z => z.cells.size), i.size)) = some (some k, k)) (hk : 0 < k) (hk2 : k ≤ 1000) (hc : cells.size = k) (hx : ρ x = .agg cells) :
    (execOp ρ ⟨dst, .buildSlice t 1 #[(0, x)], ty, pos, after, g⟩).run P w = .ok (.value (.slice (some ⟨w.heap.size, 0, none⟩) 1 1)) (w.alloc (.cells cells e)) := by
  cases hq : P.info? e with
  | none => simp [hq] at hi
  | some i =>
    cases hz : i.zero with
    | none => simp [hq, hz] at hi
    | some z =>
      simp [hq, hz] at hi
      obtain ⟨h1, h2⟩ := hi
      refine exec_buildSlice (vals := #[(0, .agg cells)]) (by simp [hx]) (run_buildSlice w t e 1 _ cells i z hu hq hz (by omega) (by omega) ?_)
      exact fill_all (k := k) (by simp [h2]) (by simp [h2]) hc
/-- A struct's type, with its zero. -/
structure AggZ (P : Program) (t : TypeId) (n : Nat) : Prop extends AggT P t n where
  zero : ∃ i z, P.info? t = some i ∧ i.zero = some z ∧ z.cells.size = n
theorem wpList_allocStore {t : TypeId} {cs : Array Value} (hT : AggZ P t cs.size) (h1 : cs.all (·.oneCell') = true) {d e : Tmp} {ty ty2 : TypeId} {pos pos2 : String} {after after2 : Array Edge}
    (hd : d < a.tmps.size) (hde : d ≠ e) (hy : a.eval (.tmp e) = .agg cs) (h : wpList P ops Q rest ((a.put (some d) (.pointer (some ⟨w.heap.size, 0, none⟩))).put none undef) (w.alloc (.cells cs t))) :
    wpList P ops Q (⟨some d, .alloc t, ty, pos, after, none⟩ :: ⟨none, .store t (.tmp d) (.tmp e), ty2, pos2, after2, none⟩ :: rest) a w := by
  obtain ⟨i, z, hi, hz, hzs⟩ := hT.zero
  refine wpList_exec (v := .pointer (some ⟨w.heap.size, 0, none⟩)) (w' := w.alloc (.cells z.cells t)) rfl ?_ ?_
  · simp [execOp, Instr.alloc, zeroValue, typeInfo, hi, hz, newVar, newRow]
  · exact wpList_storeA_new hT.toAggT hzs h1 (eval_put_same hd) (by rw [eval_put_ne hde, hy]) h
/-- 'append(s, x)', with what it leaves alone. -/
theorem wpList_append1Y {α : Type} {en : α → List Value} {k : Nat} {e t : TypeId} (E : ElT P t e k en) {B : Nat} {w wx : World} {v : Value} {xs : List α} (h : LOut en k e B w v xs) (x : α) (hsz : xs.length ≤ 1000000000) {dst : Option Tmp} {ty : TypeId} {pos : String} {after : Array Edge} {s y : Operand}
    (hwx : wx = w.alloc (.cells (en x).toArray e)) (hs : a.eval s = v) (hy : a.eval y = .slice (some ⟨w.heap.size, 0, none⟩) 1 1)
    (hk : ∀ v' w', LOut en k e B w' v' (xs ++ [x]) → Mod (fun b => v.ownBlock = some b) w w' → (v'.ownBlock = v.ownBlock ∨ ∃ r, v'.ownBlock = some r ∧ w.heap.size ≤ r) → wpList P ops Q rest (a.put dst v') w') :
    wpList P ops Q ({ dst := dst, op := .call { callee := .builtin .append, args := #[s, y], argTypes := #[t, t] }, type := ty, pos := pos, after := after, guard := none } :: rest) a wx := by
  subst hwx
  obtain ⟨v', w', hr, ho, hg, hb⟩ := run_appendMX E (ty := ty) (h.below (((Below.refl _ _).alloc (Nat.le_refl _) _) : Below w.heap.size w (w.alloc (.cells (en x).toArray e)))) (LSl.lit E.len e) (by simp; omega)
  refine wpList_exec rfl (v := v') (w' := w') ?_ (hk v' w' ho (((Mod.refl _ w).alloc _).grown hg fun k hk _ => hk) (hb.imp id fun hb => ⟨_, hb, by simp⟩))
  simp only [execOp, resolve, invoke, builtin, Sem.run_bind, Sem.run_pure, Result.andThen_ok, List.map_toArray, List.map_cons, List.map_nil, hs, hy, hr]
theorem exec_append1Y {α : Type} {en : α → List Value} {k : Nat} {e t ty : TypeId} (E : ElT P t e k en) {B : Nat} {w : World} {v : Value} {xs : List α} (h : LOut en k e B w v xs) (x : α) (hsz : xs.length ≤ 1000000000) :
    ∃ v' w', (∀ (ρ : Operand → Value) (dst : Option Tmp) (pos : String) (after : Array Edge) (g : Option (Nat × Bool)) (s y : Operand), ρ s = v → ρ y = .slice (some ⟨w.heap.size, 0, none⟩) 1 1 →
      (execOp ρ ⟨dst, .call { callee := .builtin .append, args := #[s, y], argTypes := #[t, t] }, ty, pos, after, g⟩).run P (w.alloc (.cells (en x).toArray e)) = .ok (.value v') w') ∧
      LOut en k e B w' v' (xs ++ [x]) ∧ Mod (fun b => v.ownBlock = some b) w w' ∧ (v'.ownBlock = v.ownBlock ∨ ∃ r, v'.ownBlock = some r ∧ w.heap.size ≤ r) := by
  obtain ⟨v', w', hr, ho, hg, hb⟩ := run_appendMX E (ty := ty) (h.below (((Below.refl _ _).alloc (Nat.le_refl _) _) : Below w.heap.size w (w.alloc (.cells (en x).toArray e)))) (LSl.lit E.len e) (by simp; omega)
  refine ⟨v', w', fun ρ dst pos after g s y hs hy => ?_, ho, ((Mod.refl _ w).alloc _).grown hg fun k hk _ => hk, hb.imp id fun hb => ⟨_, hb, by simp⟩⟩
  simp only [execOp, resolve, invoke, builtin, Sem.run_bind, Sem.run_pure, Result.andThen_ok, List.map_toArray, List.map_cons, List.map_nil, hs, hy, hr]
/-- 'make([]T, n)', elements of some cells each. -/
theorem exec_makeA {α : Type} {en : α → List Value} {k : Nat} {e t : TypeId} (E : ElT P t e k en) (x0 : α) (hz : (P.info? e).map (fun i => i.zero.map (·.cells)) = some (some (en x0).toArray)) (n : Nat) (hn : n ≤ 1000000000) (w : World) :
    ∃ w', (∀ (ρ : Operand → Value) (dst : Option Tmp) (ty : TypeId) (pos : String) (after : Array Edge) (g : Option (Nat × Bool)) (x y : Operand), ρ x = .int .i64 n → ρ y = .int .i64 n →
      (execOp ρ ⟨dst, .makeSlice t x y, ty, pos, after, g⟩).run P w = .ok (.value (.slice (some ⟨w.heap.size, 0, none⟩) n n)) w') ∧ LOut en k e w.heap.size w' (.slice (some ⟨w.heap.size, 0, none⟩) n n) (List.replicate n x0) ∧ Below w.heap.size w w' ∧ w'.heap.size = w.heap.size + 1 := by
  cases hq : P.info? e with
  | none => simp [hq] at hz
  | some i =>
    cases hzz : i.zero with
    | none => simp [hq, hzz] at hz
    | some z =>
      have hzc : z.cells = (en x0).toArray := by simpa [hq, hzz] using hz
      have hI := E.info
      simp only [hq, hzz, Option.map_some] at hI
      obtain ⟨_, hI⟩ := Prod.mk.inj (Option.some.inj hI)
      obtain ⟨hsize, hby⟩ := Prod.mk.inj hI
      have hby' : i.bytes ≤ 1000 := of_decide_eq_true hby
      have hpos := E.pos
      have hb : i.bytes * n ≤ 281474976710656 := by
        have : i.bytes * n ≤ 1000 * 1000000000 := Nat.mul_le_mul hby' hn
        omega
      have hb' : (i.bytes : Int) * (n : Int) ≤ 281474976710656 := by
        have h : ((i.bytes * n : Nat) : Int) ≤ 281474976710656 := by omega
        rwa [Int.natCast_mul] at h
      have hr := run_make (P := P) w t e i z E.sl hq hzz .i64 .i64 n n (by omega) (Int.le_refl _) hb' (by omega)
      simp only [Int.toNat_natCast, hsize] at hr
      refine ⟨w.alloc (.cells (madeCells z.cells (n * k)) e), fun ρ dst ty pos after g x y hx hy => ?_, ?_, (Below.refl _ _).alloc (Nat.le_refl _) _, by simp⟩
      · simp only [execOp, hx, hy, Sem.run_bind, hr, Result.andThen_ok, Sem.run_pure]
      · refine LOut.of_cells (cur := madeCells z.cells (n * k)) (by rw [List.length_replicate]) heap_alloc_at (Nat.le_refl _) (by unfold maxLen; omega) (size_madeCells _ _) ?_ (by rw [len_flatMap E.len, List.length_replicate]) (Nat.le_refl _) (by simp)
        have hl := len_flatMap E.len (List.replicate n x0)
        rw [List.length_replicate] at hl
        apply List.ext_getElem?
        intro j
        rw [List.take_of_length_le (by simp [size_madeCells])]
        by_cases hj : j < n * k
        · have hdm : j / k * k + j % k = j := by rw [Nat.mul_comm]; exact Nat.div_add_mod j k
          have hjk : j / k < n := Nat.div_lt_of_lt_mul (by rw [Nat.mul_comm]; exact hj)
          have hm : j % k < k := Nat.mod_lt _ hpos
          have h1 := get_flatMap E.len (List.replicate n x0) (j / k) (j % k) x0 (by simp [hjk]) hm
          rw [hdm] at h1
          rw [h1]
          have hzs : z.cells.size = k := by rw [hzc]; simp [E.len]
          have hm' : j % k < (en x0).length := by rw [E.len]; exact hm
          have hg : (madeCells z.cells (n * k))[j]? = some (z.cells[j % z.cells.size]!) := by simp [madeCells, hj]
          rw [Array.getElem?_toList, hg, hzs, List.getElem?_eq_getElem hm', hzc]
          simp [hm']
        · rw [List.getElem?_eq_none (by simp [size_madeCells]; omega), List.getElem?_eq_none (by rw [hl]; omega)]
theorem LOut.lies {α : Type} {en : α → List Value} {k : Nat} {e : TypeId} (hen : ∀ x, (en x).length = k) {B : Nat} {r n cap : Nat} {xs : List α} (h : LOut en k e B w (.slice (some ⟨r, 0, none⟩) n cap) xs) {i : Nat} {x : α} (hi : xs[i]? = some x) : Lies w r (i * k) (en x).toArray := by
  rcases h.own.2 with ⟨hv, h0⟩ | ⟨g, cap, cur, hv, _, hg, hn, hm, hs, ht⟩
  · cases hv
  · cases hv
    intro j hj
    have hj' : j < k := by simpa [hen] using hj
    refine cell_of hg ?_
    have h1 := get_flatMap hen xs i j x hi hj'
    rw [← ht, List.getElem?_take] at h1
    split at h1
    · rw [Array.getElem?_toList] at h1
      rw [h1]
      simp
    · rw [List.getElem?_eq_getElem (by rw [hen]; exact hj')] at h1
      cases h1
theorem setMany_all {cur : Array Value} {vs : List Value} (h : cur.size = vs.length) : setMany cur 0 vs = vs.toArray := by
  apply Array.ext'
  apply List.ext_getElem?
  intro i
  rw [Array.getElem?_toList]
  by_cases hi : i < cur.size
  · rw [setMany_get vs 0 cur i hi, if_pos ⟨Nat.zero_le _, by omega⟩]
    simp
  · rw [Array.getElem?_eq_none (by rw [setMany_size]; omega)]
    simp
    omega
/-- A struct is laid over another. -/
theorem exec_storeB {ρ : Operand → Value} {ty : TypeId} {pos : String} {after : Array Edge} {t : TypeId} {x y : Operand} {b : Nat} {cs cur : Array Value} {T : TypeId} (hT : AggT P t cs.size) (hb : w.heap[b]? = some (.cells cur T (0, 0))) (hc : cur.size = cs.size) (h1 : cs.all (·.oneCell') = true) :
    ∃ w', (∀ (ρ : Operand → Value) (dst : Option Tmp) (ty : TypeId) (pos : String) (after : Array Edge) (g : Option (Nat × Bool)) (x y : Operand), ρ x = .pointer (some ⟨b, 0, none⟩) → ρ y = .agg cs → (execOp ρ ⟨dst, .store t x y, ty, pos, after, g⟩).run P w = .ok .skip w') ∧
      w'.heap[b]? = some (.cells cs T (0, 0)) ∧ Mod (fun x => x = b) w w' := by
  have h1' : ∀ v ∈ cs.toList, v.oneCell' = true := fun v hv => (Array.all_eq_true_iff_forall_mem.1 h1) v (by simpa using hv)
  refine ⟨w.setCells b 0 cs.toList, fun ρ dst ty pos after g x y hx hy => exec_storeA hT hx hy hb (by omega) h1', ?_, Mod.setCells (S := fun x => x = b) (fun _ => rfl) _ _ _ (Mod.refl _ _)⟩
  have h := heap_setCells_at cs.toList 0 w cur hb
  rw [setMany_all (by simpa using hc)] at h
  simpa using h
theorem wpList_storeB {dst : Option Tmp} {ty : TypeId} {pos : String} {after : Array Edge} {t : TypeId} {x y : Operand} {b : Nat} {cs cur : Array Value} {T : TypeId} (hT : AggT P t cs.size) (hx : a.eval x = .pointer (some ⟨b, 0, none⟩)) (hy : a.eval y = .agg cs) (hb : w.heap[b]? = some (.cells cur T (0, 0))) (hc : cur.size = cs.size) (h1 : cs.all (·.oneCell') = true)
    (h : ∀ w', w'.heap[b]? = some (.cells cs T (0, 0)) → Mod (fun x => x = b) w w' → wpList P ops Q rest (a.put dst undef) w') : wpList P ops Q (⟨dst, .store t x y, ty, pos, after, none⟩ :: rest) a w := by
  obtain ⟨w', hr, h2, h3⟩ := exec_storeB (ρ := a.eval) (ty := ty) (pos := pos) (after := after) (x := x) (y := y) hT hb hc h1
  exact wpList_execSkip rfl (hr _ _ _ _ _ _ _ _ hx hy) (h w' h2 h3)
/-- A result that lies in cells, and two that do not. -/
theorem results_cell3 {fn : Func} {t u v : Tmp} {T : TypeId} (h : fn.results = #[.cell t T, .tmp u, .tmp v]) (tmps : Array Value) {P : Program} {w : World} {b o : Nat} {cs : Array Value} (ht : tmps.getD t undef = .pointer (some ⟨b, o, none⟩)) (hT : AggT P T cs.size) (hL : Lies w b o cs) :
    (results fn tmps).run P w = .ok (.tuple #[.agg cs, tmps.getD u undef, tmps.getD v undef]) w := by
  have hl := run_loadA hT hL
  simp only [Instr.loadAt, Instr.sureAddr, Sem.run_bind, Sem.run_pure, Result.andThen_ok] at hl
  have ht' : tmps[t]?.getD undef = .pointer (some ⟨b, o, none⟩) := by rw [← ht]; simp
  simp [results, h, ht', asAddr, hl]
/-- 'm[k] = v', the world behind it under a name. -/
theorem exec_mapUpd {κ : Type} [DecidableEq κ] {enc : κ → Value} {K E T m clk : Nat} {L : Ents κ} (hK : KeyOK P K enc) (hT : P.underlying T = some (.map K E)) (hb : w.heap[m]? = some (.map (ents enc L) clk)) (hwf : WF L clk) (k : κ) (v : Value) :
    ∃ w', (∀ (ρ : Operand → Value) (dst : Option Tmp) (ty : TypeId) (pos : String) (after : Array Edge) (g : Option (Nat × Bool)) (x i y : Operand), ρ x = .map (some m) → ρ i = enc k → ρ y = v → (execOp ρ ⟨dst, .mapUpdate T x i y, ty, pos, after, g⟩).run P w = .ok .skip w') ∧
      w'.heap[m]? = some (.map (ents enc (upd k v L clk)) (updClk k L clk)) ∧ WF (upd k v L clk) (updClk k L clk) ∧ Mod (fun x => x = m) w w' := by
  refine ⟨setObjW w m (.map (ents enc (upd k v L clk)) (updClk k L clk)), fun ρ dst ty pos after g x i y hx hi hy => ?_, setObjW_at (lt_of_block hb), hwf.upd, setObjW_mod _ _⟩
  have := exec_mapUpdate (P := P) (dst := dst) (ty := ty) (pos := pos) (after := after) (g := g) (y := y) hK hT hb hx k hi
  rw [hy] at this
  exact this
theorem wpList_mapUpd {κ : Type} [DecidableEq κ] {enc : κ → Value} {K E T m clk : Nat} {L : Ents κ} (hK : KeyOK P K enc) (hT : P.underlying T = some (.map K E)) (hb : w.heap[m]? = some (.map (ents enc L) clk)) (hwf : WF L clk) (k : κ) (v : Value) {dst : Option Tmp} {ty : TypeId} {pos : String} {after : Array Edge} {x i y : Operand}
    (hx : a.eval x = .map (some m)) (hi : a.eval i = enc k) (hy : a.eval y = v)
    (h : ∀ w', w'.heap[m]? = some (.map (ents enc (upd k v L clk)) (updClk k L clk)) → WF (upd k v L clk) (updClk k L clk) → Mod (fun x => x = m) w w' → wpList P ops Q rest (a.put dst undef) w') : wpList P ops Q (⟨dst, .mapUpdate T x i y, ty, pos, after, none⟩ :: rest) a w := by
  obtain ⟨w', hr, h1, h2, h3⟩ := exec_mapUpd (P := P) hK hT hb hwf k v
  exact wpList_execSkip rfl (hr _ _ _ _ _ _ _ _ _ hx hi hy) (h w' h1 h2 h3)
end Go.Tn

/- 'append(s, make([]T, n)...)', elements of one cell. -/
namespace Go.Proofs.YtipbaajdnnddgaaGreat
open Go.RowKit Go.Tn
section
variable {P : Program} {e t ti : TypeId}
theorem zeroCells_one (z : Value) (n : Nat) : Builtin.zeroCells #[z] n = (List.replicate n z).toArray := by
  unfold Builtin.zeroCells
  apply Array.ext
  · simp
  · intro i h1 h2
    simp [Nat.mod_one]
theorem rep_flatMap {α : Type} {en : α → List Value} {z0 : Value} {x0 : α} (hx0 : en x0 = [z0]) : ∀ n : Nat, (List.replicate n x0).flatMap en = List.replicate n z0
  | 0 => rfl
  | n + 1 => by rw [List.replicate_succ, List.flatMap_cons, hx0, rep_flatMap hx0 n]; rfl
set_option maxHeartbeats 1000000 in
theorem run_appendZ {α : Type} {en : α → List Value} {z0 : Value} (E : ElT P t e 1 en) (hti : P.underlying ti = some (.int .i64)) (x0 : α) (hx0 : en x0 = [z0]) (hz0 : (P.info? e).map (fun i => i.zero.map (·.cells)) = some (some #[z0])) {ty : TypeId} {B : Nat} {w : World} {v : Value} {xs : List α} (h : LOut en 1 e B w v xs) (n : Nat) (hsz : xs.length + n ≤ 100000) :
    ∃ v' w', (Builtin.append_ #[t, ti] ty #[v, .int .i64 n]).run P w = .ok v' w' ∧ LOut en 1 e B w' v' (xs ++ List.replicate n x0) ∧ w.grownBy w' v.ownBlock ∧ (v'.ownBlock = v.ownBlock ∨ v'.ownBlock = some w.heap.size) := by
  obtain ⟨i, hi, hI⟩ : ∃ i, P.info? e = some i ∧ (i.zero.map (fun z => z.cells.size), i.size, decide (i.bytes ≤ 1000)) = (some 1, 1, true) := by
    have := E.info
    cases hq : P.info? e with
    | none => simp [hq] at this
    | some i => exact ⟨i, rfl, by simpa [hq] using this⟩
  obtain ⟨-, hI⟩ := Prod.mk.inj hI
  obtain ⟨hsize, hby⟩ := Prod.mk.inj hI
  obtain ⟨z, hz, hzc⟩ : ∃ z, i.zero = some z ∧ z.cells = #[z0] := by
    rw [hi] at hz0
    cases hq : i.zero with
    | none => simp [hq] at hz0
    | some z => exact ⟨z, rfl, by simpa [hq] using hz0⟩
  have hby' : i.bytes ≤ 1000 := of_decide_eq_true hby
  have hw : IntKind.i64.wrap (n : Int) = n := by rw [IntKind.wrap_i64]; omega
  have hl0 : ¬ ((n : Int) < 0) := by omega
  have hmul : n * i.bytes ≤ 100000 * 1000 := Nat.mul_le_mul (by omega) hby'
  have hl1 : ¬ ((2 : Int) ^ 48 < (n : Int) * (i.bytes : Int)) := by
    have : ((n * i.bytes : Nat) : Int) ≤ ((100000 * 1000 : Nat) : Int) := Int.ofNat_le.2 hmul
    rw [Int.natCast_mul] at this
    omega
  have hl1' : ¬ ((281474976710656 : Int) < (n : Int) * (i.bytes : Int)) := by
    have : ((n * i.bytes : Nat) : Int) ≤ ((100000 * 1000 : Nat) : Int) := Int.ofNat_le.2 hmul
    rw [Int.natCast_mul] at this
    omega
  have hfm : (xs ++ List.replicate n x0).flatMap en = xs.flatMap en ++ List.replicate n z0 := by rw [List.flatMap_append, rep_flatMap hx0]
  have hxl : (xs.flatMap en).length = xs.length := by rw [len_flatMap E.len, Nat.mul_one]
  have hfl : (xs ++ List.replicate n x0).length = xs.length + n := by simp
  have h63 : xs.length + n ≤ maxLen := by unfold maxLen; omega
  have hbyt : (xs.length + n) * i.bytes ≤ 140737488355328 := by
    have : (xs.length + n) * i.bytes ≤ 100000 * 1000 := Nat.mul_le_mul hsz hby'
    omega
  have hone : z0.oneCell' = true := E.one x0 z0 (by rw [hx0]; exact List.mem_singleton.2 rfl)
  have grown : ∀ old : Nat, old < xs.length + n → ∀ row : Option Nat, LOut en 1 e B (w.drew.alloc (.cells ((xs.flatMap en).toArray ++ (List.replicate n z0).toArray ++ Builtin.zeroCells z.cells (grownCap w (xs.length + n) old e - (xs.length + n))) e)) (.slice (some ⟨w.heap.size, 0, none⟩) (xs.length + n) (grownCap w (xs.length + n) old e)) (xs ++ List.replicate n x0) ∧
      w.grownBy (w.drew.alloc (.cells ((xs.flatMap en).toArray ++ (List.replicate n z0).toArray ++ Builtin.zeroCells z.cells (grownCap w (xs.length + n) old e - (xs.length + n))) e)) row := by
    intro old ho row
    have hge := grownCap_ge w (xs.length + n) old e
    have hcm : grownCap w (xs.length + n) old e ≤ maxLen := grownCap_le_maxLen w (xs.length + n) old e h63
    refine ⟨⟨⟨by rw [hfm, hfl, List.length_append, hxl, List.length_replicate, Nat.mul_one], .inr ⟨w.heap.size, _, _, by rw [hfl], Nat.zero_le _, heap_alloc_new w.drew _, by rw [hfl]; exact hge, hcm, ?_, ?_⟩⟩, fun r hr => ?_, ?_⟩, ⟨rfl, rfl, rfl, by simp, fun k hk _ => heap_alloc_old w.drew _ hk⟩⟩
    · rw [hzc]
      simp only [Array.size_append, List.size_toArray, size_zeroCells, hxl, List.length_replicate]
      simp
      omega
    · rw [hfm, hfl]
      simp only [Array.toList_append, List.append_assoc, Nat.mul_one]
      rw [← List.append_assoc]
      have : (xs.flatMap en ++ List.replicate n z0).length = xs.length + n := by rw [List.length_append, hxl, List.length_replicate]
      rw [← this]
      exact List.take_left
    · cases hr
      exact h.le
    · have := h.le
      simp
      omega
  have hnl : (List.replicate n z0).length = n := List.length_replicate
  have hw0 : IntKind.i64.wrap 0 = 0 := by rw [IntKind.wrap_i64]; rfl
  have hnat : ((n : Int)).toNat = n := Int.toNat_natCast n
  rcases h.own.2 with ⟨hv, h0⟩ | ⟨g, cap, cur, hv, hbg, hg, hnc, hcm, hcs, htake⟩
  · have hx : xs = [] := List.eq_nil_of_length_eq_zero h0
    subst hx
    subst hv
    by_cases hm : n = 0
    · subst hm
      refine ⟨.slice none 0 0, w, ?_, by simpa using h, World.grownBy.refl _ _, .inl rfl⟩
      simp [Builtin.append_, run_underlying E.sl, run_underlying hti, sizeOf, typeInfo, zeroValue, hi, hz, Builtin.lenOf, Builtin.firstCells, asInt, asIntOf, hw0]
    · have hgr := grown 0 (by simp; omega) (Value.ownBlock (.slice none 0 0))
      have hfit : Builtin.nextslicecap (0 + n) 0 * i.bytes ≤ 281474976710656 := growslice_fits (by omega) (by simpa using hbyt)
      simp only [List.length_nil, Nat.zero_add, List.nil_append, List.flatMap_nil, Array.empty_append] at hgr hfit ⊢
      refine ⟨_, _, ?_, hgr.1, hgr.2, Or.inr rfl⟩
      have hn : ¬ (n ≤ 0) := by omega
      have h63' : ¬ (9223372036854775807 < (n : Int)) := by omega
      have h48' : ¬ (281474976710656 < Builtin.nextslicecap n 0 * i.bytes) := by omega
      simp [Builtin.append_, run_underlying E.sl, run_underlying hti, sizeOf, typeInfo, zeroValue, hi, hz, hzc, hsize, Builtin.lenOf, Builtin.firstCells, loadCells, loadCellsFrom, asInt, asIntOf, hw, hnat, hn, hm, hl0, hl1', h63', h48', Question.forced, newRow, grownCap, zeroCells_one]
  · subst hv
    by_cases hroom : xs.length + n ≤ cap
    · have hfit : xs.length + (List.replicate n z0).length ≤ cur.size := by rw [hnl, hcs]; omega
      have hst := run_storeCells_at P g xs.length e (List.replicate n z0) 0 cur w hg (by simpa using hfit) (fun u hu => by rw [List.eq_of_mem_replicate hu]; exact hone)
      simp only [Nat.add_zero] at hst
      refine ⟨.slice (some ⟨g, 0, none⟩) (xs.length + n) cap, w.setRow g (cur.toList.take xs.length ++ List.replicate n z0 ++ cur.toList.drop (xs.length + (List.replicate n z0).length)).toArray, ?_, ⟨⟨by rw [hfm, hfl, List.length_append, hxl, hnl, Nat.mul_one], .inr ⟨g, cap, _, by rw [hfl], hbg, setRow_heap w g cur _ e _ hg, by rw [hfl]; exact hroom, hcm, ?_, ?_⟩⟩, fun r hr => h.lo r hr, ?_⟩, ⟨rfl, rfl, rfl, by simp, fun k _ hk => setRow_other w g k _ (fun e => hk (by simp [Value.ownBlock, e]))⟩, .inl rfl⟩
      · by_cases hm : n = 0
        · subst hm
          simp [Builtin.append_, run_underlying E.sl, run_underlying hti, sizeOf, typeInfo, zeroValue, hi, hz, hzc, hsize, Builtin.lenOf, asInt, asIntOf, hw0, hnc, zeroCells_one, Addr.add_lit]
          have hst' := hst
          simp [Addr.add_lit] at hst'
          rw [hst']
          rfl
        · simp [Builtin.append_, run_underlying E.sl, run_underlying hti, sizeOf, typeInfo, zeroValue, hi, hz, hzc, hsize, Builtin.lenOf, asInt, asIntOf, hw, hnat, hm, hl0, hl1', hroom, zeroCells_one, Addr.add_lit, hst]
      · simp only [List.size_toArray, List.length_append, List.length_take, List.length_drop, Array.length_toList, hnl]
        omega
      · have hlen : (xs.flatMap en ++ List.replicate n z0).length = xs.length + n := by rw [List.length_append, hxl, hnl]
        rw [hfm, hfl, Nat.mul_one, ← hlen]
        rw [Nat.mul_one] at htake
        rw [htake]
        exact List.take_left
      · have := h.le
        simpa using this
    · have holds : ∀ j u, (xs.flatMap en)[j]? = some u → w.cell? ((⟨g, 0, none⟩ : Addr).add j) = some u := h.own.cells (g := g) rfl
      have hfo := run_firstCells_some (P := P) w.drew 1 xs.length ⟨g, 0, none⟩ xs.length cap (xs.flatMap en) (by rw [hxl, Nat.mul_one]) (by simpa using holds)
      have hgr := grown cap (by omega) (Value.ownBlock (.slice (some ⟨g, 0, none⟩) xs.length cap))
      have hfit : Builtin.nextslicecap (xs.length + n) cap * i.bytes ≤ 281474976710656 := growslice_fits (by omega) hbyt
      refine ⟨_, _, ?_, hgr.1, hgr.2, Or.inr rfl⟩
      have hm : ¬ (n = 0) := by omega
      have h63' : ¬ (9223372036854775807 < (xs.length : Int) + (n : Int)) := by omega
      have h48' : ¬ (281474976710656 < Builtin.nextslicecap (xs.length + n) cap * i.bytes) := by omega
      simp [Builtin.append_, run_underlying E.sl, run_underlying hti, sizeOf, typeInfo, zeroValue, hi, hz, hzc, hsize, Builtin.lenOf, asInt, asIntOf, hw, hnat, hroom, hm, hl0, hl1', h63', h48', Question.forced, hfo, newRow, grownCap, zeroCells_one]
theorem wpList_appendZ {ops : Array Oper} {rest : List Oper} {a : Act} {Q : Exit → Act → World → Prop} {α : Type} {en : α → List Value} {z0 : Value} (E : ElT P t e 1 en) (hti : P.underlying ti = some (.int .i64)) (x0 : α) (hx0 : en x0 = [z0]) (hz0 : (P.info? e).map (fun i => i.zero.map (·.cells)) = some (some #[z0])) {B : Nat} {w : World} {v : Value} {xs : List α} (h : LOut en 1 e B w v xs) (n : Nat) (hsz : xs.length + n ≤ 100000) {dst : Option Tmp} {ty : TypeId} {pos : String} {after : Array Edge} {s y : Operand}
    (hs : a.eval s = v) (hy : a.eval y = .int .i64 n)
    (hk : ∀ v' w', LOut en 1 e B w' v' (xs ++ List.replicate n x0) → Below B w w' → wpList P ops Q rest (a.put dst v') w') :
    wpList P ops Q ({ dst := dst, op := .call { callee := .builtin .append, args := #[s, y], argTypes := #[t, ti] }, type := ty, pos := pos, after := after, guard := none } :: rest) a w := by
  obtain ⟨v', w', hr, ho, hg, _⟩ := run_appendZ E hti x0 hx0 hz0 (ty := ty) h n hsz
  refine wpList_exec rfl (v := v') (w' := w') ?_ (hk v' w' ho ((Below.refl B w).grown hg h.le h.lo))
  simp only [execOp, resolve, invoke, builtin, Sem.run_bind, Sem.run_pure, Result.andThen_ok, List.map_toArray, List.map_cons, List.map_nil, hs, hy, hr]
/-- An array's element that is a struct. -/
theorem exec_indexA {ρ : Operand → Value} {dst : Option Tmp} {ty : TypeId} {pos : String} {after : Array Edge} {g : Option (Nat × Bool)} {n c : Nat} {k : IntKind} {cs ys : Array Value} {i : Nat} {w : World} {x y : Operand} (ht : P.underlying t = some (.array n e)) (hT : AggT P e c) (hi : i < n) (hg : cs.extract (i * c) (i * c + c) = ys) (hx : ρ x = .agg cs) (hy : ρ y = .int k i) :
    (execOp ρ ⟨dst, .index t x y, ty, pos, after, g⟩).run P w = .ok (.value (.agg ys)) w := by
  obtain ⟨⟨d, hu, hd⟩, hsz⟩ := hT
  have hagg : (isAgg e).run P w = .ok true w := by cases d <;> simp at hd <;> simp [isAgg, underlying, hu]
  cases hq : P.info? e with
  | none => simp [hq] at hsz
  | some z =>
    have hs : z.size = c := by simpa [hq] using hsz
    have hso : (sizeOf e).run P w = .ok c w := by simp [sizeOf, typeInfo, hq, hs]
    have h0 : (0 : Int) ≤ (i : Int) ∧ (i : Int) < (n : Int) := by omega
    have hn : ¬ ((i : Int) < 0 ∨ (n : Int) ≤ (i : Int)) := by omega
    have hrun : (Instr.index t (.agg cs) (.int k i)).run P w = .ok (.agg ys) w := by
      simp [Instr.index, asIntOf, underlying, ht, hso, part, hagg, hg]
      omega
    simp only [execOp, hx, hy, Sem.run_bind, hrun, Result.andThen_ok, Sem.run_pure]
/-- A struct is laid into another. -/
theorem wpList_storeO {ops : Array Oper} {rest : List Oper} {a : Act} {Q : Exit → Act → World → Prop} {w : World} {dst : Option Tmp} {ty : TypeId} {pos : String} {after : Array Edge} {x y : Operand} {b o : Nat} {cs cur : Array Value} {T : TypeId} (hT : AggT P t cs.size) (hb : w.heap[b]? = some (.cells cur T (0, 0))) (ho : o + cs.size ≤ cur.size) (h1 : cs.all (·.oneCell') = true) (hx : a.eval x = .pointer (some ⟨b, o, none⟩)) (hy : a.eval y = .agg cs)
    (h : ∀ w', w'.heap[b]? = some (.cells (setMany cur o cs.toList) T (0, 0)) → Mod (fun x => x = b) w w' → wpList P ops Q rest (a.put dst undef) w') : wpList P ops Q (⟨dst, .store t x y, ty, pos, after, none⟩ :: rest) a w :=
  wpList_execSkip rfl (exec_storeA hT hx hy hb ho (fun v hv => by rw [Array.all_eq_true'] at h1; exact h1 v (by simpa using hv))) (h _ (heap_setCells_at cs.toList o w cur hb) (Mod.setCells (S := fun x => x = b) (fun _ => rfl) _ _ _ (Mod.refl _ _)))
/-- Items, one by one. -/
theorem eqItems_all {w : World} {d : Nat} {c : Nat} {xs ys : Array Value} {r : Nat → Bool} : ∀ is : List Nat, (∀ i ∈ is, ∃ a b, (part e xs (i * c)).run P w = .ok a w ∧ (part e ys (i * c)).run P w = .ok b w ∧ (Op.equalIn d e a b).run P w = .ok (r i) w) → (Op.eqItems d e c xs ys is).run P w = .ok (is.all r) w
  | [], _ => rfl
  | i :: is, h => by
    obtain ⟨a, b, h1, h2, h3⟩ := h i (List.mem_cons_self ..)
    have ih := eqItems_all is fun j hj => h j (List.mem_cons_of_mem _ hj)
    simp only [Op.eqItems, Sem.run_bind, h1, h2, h3, Result.andThen_ok, List.all_cons]
    cases r i
    · rfl
    · simpa using ih
theorem part_int {w : World} {k : IntKind} (he : P.underlying e = some (.int k)) {xs : Array Value} {i : Nat} {v : Value} (h : xs[i]? = some v) : (part e xs i).run P w = .ok v w := by
  simp [part, isAgg, run_underlying he, h]
/-- Two structs, or two arrays: whether they are the same. -/
theorem exec_eqlS {ρ : Operand → Value} {dst : Option Tmp} {ty : TypeId} {pos : String} {after : Array Edge} {g : Option (Nat × Bool)} {t yt : TypeId} {xs ys : Array Value} {q : Bool} {x y : Operand} (hm : P.eqGuardType P.depth t = false) (hq : ∀ w, (Op.equalIn 10000 t (.agg xs) (.agg ys)).run P w = .ok q w) (hx : ρ x = .agg xs) (hy : ρ y = .agg ys) (w : World) :
    (execOp ρ ⟨dst, .binOp .eql t x y yt, ty, pos, after, g⟩).run P w = .ok (.value (.bool q)) w := by
  simp only [execOp, hx, hy, Sem.run_bind, run_eqGuard_agg w .eql t x y _ _ hm, Result.andThen_ok, run_eql_struct, hq, Sem.run_pure]
theorem exec_neqS {ρ : Operand → Value} {dst : Option Tmp} {ty : TypeId} {pos : String} {after : Array Edge} {g : Option (Nat × Bool)} {t yt : TypeId} {xs ys : Array Value} {q : Bool} {x y : Operand} (hm : P.eqGuardType P.depth t = false) (hq : ∀ w, (Op.equalIn 10000 t (.agg xs) (.agg ys)).run P w = .ok q w) (hx : ρ x = .agg xs) (hy : ρ y = .agg ys) (w : World) :
    (execOp ρ ⟨dst, .binOp .neq t x y yt, ty, pos, after, g⟩).run P w = .ok (.value (.bool (!q))) w := by
  simp only [execOp, hx, hy, Sem.run_bind, run_eqGuard_agg w .neq t x y _ _ hm, Result.andThen_ok, run_neq_struct, hq, Sem.run_pure]
end
end Go.Proofs.YtipbaajdnnddgaaGreat

/- A store of one cell, as one operation. No program. -/
namespace Go.Tn
open Go.RowKit
variable {P : Program}

def plainV : Value → Bool
  | .int _ _ | .bool _ | .string _ | .pointer _ | .slice _ _ _ | .map _ => true
  | _ => false

theorem exec_store1 {ρ : Operand → Value} {dst : Option Tmp} {ty : TypeId} {pos : String} {after : Array Edge} {g : Option (Nat × Bool)} {t : TypeId} {x y : Operand} {w : World} {b o : Nat} {v old : Value} (hT : ScalarT P t) (hsz : (P.info? t).map (·.size) = some 1) (hx : ρ x = .pointer (some ⟨b, o, none⟩)) (hy : ρ y = v) (h1 : plainV v = true) (hc : w.cell? ⟨b, o, none⟩ = some old) (hf : w.frozen? ⟨b, o, none⟩ = false) :
    (execOp ρ ⟨dst, .store t x y, ty, pos, after, g⟩).run P w = .ok .skip (w.setCell ⟨b, o, none⟩ v) := by
  obtain ⟨d, hu, hd⟩ := hT.plain
  have hagg : (isAgg t).run P w = .ok false w := by cases d <;> simp at hd <;> simp [isAgg, underlying, hu]
  cases hq : P.info? t with
  | none => simp [hq] at hsz
  | some i =>
    have hs : i.size = 1 := by simpa [hq] using hsz
    have hso : (sizeOf t).run P w = .ok 1 w := by simp [sizeOf, typeInfo, hq, hs]
    cases v <;> first
      | (simp [execOp, hx, hy, Instr.storeAt, Instr.sureAddr, storeVar, hso, storeCells, hc, hf, go_sem]; done)
      | (exfalso; simp [plainV] at h1; done)

/-- An array's element. -/
theorem run_index1 {t e : TypeId} {n : Nat} {k : IntKind} {cs : Array Value} {i : Nat} {v : Value} {w : World} (ht : P.underlying t = some (.array n e)) (hT : ScalarT P e) (hsz : (P.info? e).map (·.size) = some 1) (hi : i < n) (hg : cs[i]? = some v) :
    (Instr.index t (.agg cs) (.int k i)).run P w = .ok v w := by
  obtain ⟨d, hu, hd⟩ := hT.plain
  have hagg : (isAgg e).run P w = .ok false w := by cases d <;> simp at hd <;> simp [isAgg, underlying, hu]
  cases hq : P.info? e with
  | none => simp [hq] at hsz
  | some x =>
    have hs : x.size = 1 := by simpa [hq] using hsz
    have hso : (sizeOf e).run P w = .ok 1 w := by simp [sizeOf, typeInfo, hq, hs]
    have h0 : (0 : Int) ≤ (i : Int) ∧ (i : Int) < (n : Int) := by omega
    simp [Instr.index, asIntOf, underlying, ht, hso, part, hagg, hg]
    omega
theorem exec_index1 {ρ : Operand → Value} {dst : Option Tmp} {ty : TypeId} {pos : String} {after : Array Edge} {g : Option (Nat × Bool)} {t e : TypeId} {n : Nat} {k : IntKind} {cs : Array Value} {i : Nat} {v : Value} {w : World} {x y : Operand} (ht : P.underlying t = some (.array n e)) (hT : ScalarT P e) (hsz : (P.info? e).map (·.size) = some 1) (hx : ρ x = .agg cs) (hy : ρ y = .int k i) (hi : i < n) (hg : cs[i]? = some v) :
    (execOp ρ ⟨dst, .index t x y, ty, pos, after, g⟩).run P w = .ok (.value v) w := by
  simp only [execOp, hx, hy, Sem.run_bind, run_index1 ht hT hsz hi hg, Result.andThen_ok, Sem.run_pure]
end Go.Tn

namespace Go.Tn.Bits
theorem fst_eq {g : Nat → Bool} {i n : Nat} (h : ∀ j, j < i → g j = false) (hi : g i = true) (hn : i < n) : fst g n = i := by
  rcases Nat.lt_trichotomy (fst g n) i with h1 | h1 | h1
  · have := fst_some (f := g) (m := n) (by omega)
    rw [h _ h1] at this; cases this
  · exact h1
  · have := fst_none (f := g) (m := n) h1
    rw [hi] at this; cases this
theorem fst_full {g : Nat → Bool} {n : Nat} (h : ∀ j, j < n → g j = false) : fst g n = n := by
  have hle := fst_le g n
  rcases Nat.lt_or_ge (fst g n) n with h1 | h1
  · have := fst_some (f := g) (m := n) h1
    rw [h _ h1] at this; cases this
  · omega
end Go.Tn.Bits

/- Shifts, bits of small numbers, as natural numbers. No program. -/
namespace Go.Tn.Bt
open Go.Tn.Bits

theorem run_shr {P : Program} {k yk : IntKind} (x d : Nat) (hd : d ≤ k.bits) (w : World) : (Op.shift .shr k (x : Int) yk (d : Int)).run P w = .ok (.int k ((x / 2 ^ d : Nat) : Int)) w := by
  rw [shift_shr_any _ _ _ _ (by omega)]
  simp [Nat.min_eq_left hd]
theorem run_shl {P : Program} {k yk : IntKind} (x d : Nat) (hd : d ≤ k.bits) (w : World) : (Op.shift .shl k (x : Int) yk (d : Int)).run P w = .ok (.int k (k.wrap ((x * 2 ^ d : Nat) : Int))) w := by
  rw [shift_shl_any _ _ _ _ (by omega)]
  simp [Nat.min_eq_left hd]
theorem wrap8 (x : Nat) : IntKind.u8.wrap (x : Int) = ((x % 256 : Nat) : Int) := by rw [IntKind.wrap_u8]; omega
theorem wrap32 (x : Nat) : IntKind.u32.wrap (x : Int) = ((x % 4294967296 : Nat) : Int) := by rw [IntKind.wrap_u32]; omega
theorem wrap64 (x : Nat) : IntKind.u64.wrap (x : Int) = ((x % 18446744073709551616 : Nat) : Int) := by rw [IntKind.wrap_u64]; omega
theorem and8 (x y : Nat) (hx : x < 256) (hy : y < 256) : bits .and .u8 (x : Int) (y : Int) = ((x &&& y : Nat) : Int) := by
  have h : x &&& y < 256 := Nat.lt_of_le_of_lt Nat.and_le_left hx
  unfold Go.bits
  simp only [BitVec.ofInt_natCast]
  rw [BitVec.toNat_and, BitVec.toNat_ofNat, BitVec.toNat_ofNat]
  rw [Nat.mod_eq_of_lt (show x < 2 ^ IntKind.u8.bits from hx), Nat.mod_eq_of_lt (show y < 2 ^ IntKind.u8.bits from hy)]
  rw [wrap8, Nat.mod_eq_of_lt h]
theorem or8 (x y : Nat) (hx : x < 256) (hy : y < 256) : bits .or .u8 (x : Int) (y : Int) = ((x ||| y : Nat) : Int) := by
  have h : x ||| y < 2 ^ 8 := Nat.or_lt_two_pow hx hy
  unfold Go.bits
  simp only [BitVec.ofInt_natCast]
  rw [BitVec.toNat_or, BitVec.toNat_ofNat, BitVec.toNat_ofNat]
  rw [Nat.mod_eq_of_lt (show x < 2 ^ IntKind.u8.bits from hx), Nat.mod_eq_of_lt (show y < 2 ^ IntKind.u8.bits from hy)]
  rw [wrap8, Nat.mod_eq_of_lt h]
theorem and32 (x y : Nat) (hx : x < 4294967296) (hy : y < 4294967296) : bits .and .u32 (x : Int) (y : Int) = ((x &&& y : Nat) : Int) := by
  have h : x &&& y < 4294967296 := Nat.lt_of_le_of_lt Nat.and_le_left hx
  unfold Go.bits
  simp only [BitVec.ofInt_natCast]
  rw [BitVec.toNat_and, BitVec.toNat_ofNat, BitVec.toNat_ofNat]
  rw [Nat.mod_eq_of_lt (show x < 2 ^ IntKind.u32.bits from hx), Nat.mod_eq_of_lt (show y < 2 ^ IntKind.u32.bits from hy)]
  rw [wrap32, Nat.mod_eq_of_lt h]
theorem or32 (x y : Nat) (hx : x < 4294967296) (hy : y < 4294967296) : bits .or .u32 (x : Int) (y : Int) = ((x ||| y : Nat) : Int) := by
  have h : x ||| y < 2 ^ 32 := Nat.or_lt_two_pow hx hy
  unfold Go.bits
  simp only [BitVec.ofInt_natCast]
  rw [BitVec.toNat_or, BitVec.toNat_ofNat, BitVec.toNat_ofNat]
  rw [Nat.mod_eq_of_lt (show x < 2 ^ IntKind.u32.bits from hx), Nat.mod_eq_of_lt (show y < 2 ^ IntKind.u32.bits from hy)]
  rw [wrap32, Nat.mod_eq_of_lt h]
theorem mask8 (p k : Nat) (hk : k ≤ 8) : (p % 256) &&& (2 ^ k - 1) = p % 2 ^ k := by
  rw [Nat.and_two_pow_sub_one_eq_mod, Nat.mod_mod_of_dvd]
  exact Nat.pow_dvd_pow (n := 8) 2 hk
end Go.Tn.Bt
