/- Operations with guards. No program. -/
import Derived.Test.YteafnipciofamaaOps
import Derived.Test.YteafnipciofamaaOrd
import Derived.BigGuard
namespace Go.Tn
open Go.RowKit
/-- An operation whose guard lets it. -/
theorem wpList_execW {P : Program} {ops : Array Oper} {a : Act} {w : World} {rest : List Oper} {Q : Exit → Act → World → Prop} {o : Oper} {v : Value} {w' : World} (hr : (execOp a.eval o).run P w = .ok (.value v) w') (hg : Region.wanted o (yielded ops a.tmps) = true) (h : wpList P ops Q rest (a.put o.dst v) w') : wpList P ops Q (o :: rest) a w := by
  refine BigFrame.wpList_want hg fun K hK => ?_
  simp only [Oper.wp, hr, Oper.upon]
  exact hK _ _ h
/-- The same, one that answers nothing. -/
theorem wpList_execSkipW {P : Program} {ops : Array Oper} {a : Act} {w : World} {rest : List Oper} {Q : Exit → Act → World → Prop} {o : Oper} {w' : World} (hr : (execOp a.eval o).run P w = .ok .skip w') (hg : Region.wanted o (yielded ops a.tmps) = true) (h : wpList P ops Q rest (a.put o.dst undef) w') : wpList P ops Q (o :: rest) a w := by
  refine BigFrame.wpList_want hg fun K hK => ?_
  simp only [Oper.wp, hr, Oper.upon]
  exact hK _ _ h
section
variable {κ : Type} [DecidableEq κ] {P : Program} {K E T m clk : Nat} {enc : κ → Value} {w : World} {L : Ents κ} {ρ : Operand → Value} {dst : Option Tmp} {ty : TypeId} {pos : String} {after : Array Edge} {g : Option (Nat × Bool)}
/-- An entry of a literal. -/
theorem exec_insert (hK : KeyOK P K enc) (hT : P.underlying T = some (.map K E)) (hb : w.heap[m]? = some (.map (ents enc L) clk)) {x i y : Operand} (hx : ρ x = .map (some m)) (k : κ) (hi : ρ i = enc k) :
    (execOp ρ ⟨dst, .insert T x i y, ty, pos, after, g⟩).run P w = .ok .skip (setObjW w m (.map (ents enc (upd k (ρ y) L clk)) (updClk k L clk))) := by
  simp only [execOp, hx, hi, Sem.run_bind, run_mapUpdate hK hT hb, Result.andThen_ok, Sem.run_pure]
end
section
variable {κ : Type} [DecidableEq κ] {P : Program} {K E T m clk : Nat} {enc : κ → Value} {w : World} {L : Ents κ} {ρ : Operand → Value} {dst : Option Tmp} {ty : TypeId} {pos : String} {after : Array Edge} {g : Option (Nat × Bool)} {z : Value}
/-- The entries while an entry is stored to, and its stamp. -/
def entL (k : κ) (z : Value) (L : Ents κ) (clk : Nat) : Ents κ := match look k L 0 with
  | some _ => L
  | none => L ++ [(k, z, clk)]
def entS (k : κ) (L : Ents κ) (clk : Nat) : Nat := match look k L 0 with
  | some (i, _) => ((L[i]?).map (·.2.2)).getD 0
  | none => clk
theorem exec_mapEntryE (hK : KeyOK P K enc) (hT : P.underlying T = some (.map K E)) (hz : ∀ w, (zeroValue E).run P w = .ok z w) (hb : w.heap[m]? = some (.map (ents enc L) clk)) {x i : Operand} (hx : ρ x = .map (some m)) (k : κ) (hi : ρ i = enc k) :
    (execOp ρ ⟨dst, .mapEntry T x i, ty, pos, after, g⟩).run P w = .ok (.value (.tuple #[getD k L z, .int .i64 (entS k L clk)])) (setObjW w m (.map (ents enc (entL k z L clk)) (updClk k L clk))) := by
  rcases run_mapEntry hK hT hz hb k with ⟨n, e, hn, hk, hl, hr⟩ | ⟨hl, hr⟩
  · have hg : getD k L z = e.2.1 := by simp [getD, get, hl]
    have h1 : entS k L clk = e.2.2 := by simp [entS, hl, hn]
    have h2 : entL k z L clk = L := by simp [entL, hl]
    have h3 : updClk k L clk = clk := by simp [updClk, hl]
    rw [hg, h1, h2, h3]
    simp only [execOp, hx, hi, Sem.run_bind, hr, Result.andThen_ok, Sem.run_pure]
  · have hnone : get k L = none := by simp [get, hl]
    have hg : getD k L z = z := by simp [getD, hnone]
    have h1 : entS k L clk = clk := by simp [entS, hl]
    have h2 : entL k z L clk = L ++ [(k, z, clk)] := by simp [entL, hl]
    have h3 : updClk k L clk = clk + 1 := by simp [updClk, hl]
    rw [hg, h1, h2, h3]
    simp only [execOp, hx, hi, Sem.run_bind, hr, Result.andThen_ok, Sem.run_pure]
theorem ent_spec (hwf : WF L clk) (k : κ) (z : Value) : ∃ n e, (entL k z L clk)[n]? = some e ∧ e.2.2 = entS k L clk ∧ (∀ i e', (entL k z L clk)[i]? = some e' → e'.2.2 = e.2.2 → i = n) ∧ ∀ v, ((entL k z L clk).modify n fun e => (e.1, v, e.2.2)) = upd k v L clk := by
  cases hl : look k L 0 with
  | some x =>
    obtain ⟨j, u⟩ := x
    obtain ⟨n, e, hj, hn, h1, h2⟩ := look_some hl
    obtain rfl : j = n := by omega
    refine ⟨j, e, by simpa [entL, hl] using hn, by simp [entS, hl, hn], ?_, fun v => by simp [upd, entL, hl]⟩
    rw [show entL k z L clk = L by simp [entL, hl]]
    exact hwf.stamp hn
  | none =>
    have h2 : entL k z L clk = L ++ [(k, z, clk)] := by simp [entL, hl]
    rw [h2]
    refine ⟨L.length, (k, z, clk), by simp, by simp [entS, hl], ?_, fun v => ?_⟩
    · have hwf' : WF (L ++ [(k, z, clk)]) (clk + 1) := by
        have := hwf.upd (k := k) (v := z)
        simpa [upd, updClk, hl] using this
      exact hwf'.stamp (by simp)
    · simp only [upd, hl]
      apply List.ext_getElem?
      intro j
      rw [List.getElem?_modify]
      by_cases hj : L.length = j
      · subst hj; simp
      · simp only [hj, if_false]
        by_cases hlt : j < L.length
        · simp [List.getElem?_append_left hlt]
        · rw [List.getElem?_append_right (by omega), List.getElem?_append_right (by omega)]
          simp [List.getElem?_singleton, show ¬ j - L.length = 0 by omega]
theorem exec_entryStoreE {k : κ} (hb : w.heap[m]? = some (.map (ents enc (entL k z L clk)) (updClk k L clk))) (hwf : WF L clk) {x y s : Operand} (hx : ρ x = .map (some m)) (hs : ρ s = .int .i64 (entS k L clk)) :
    (execOp ρ ⟨dst, .entryStore T x s y, ty, pos, after, g⟩).run P w = .ok .skip (setObjW w m (.map (ents enc (upd k (ρ y) L clk)) (updClk k L clk))) := by
  obtain ⟨n, e, hn, he, hu, hm⟩ := ent_spec hwf k z
  rw [← he] at hs
  rw [exec_entryStore hb hn hu hx hs, hm]
end
/-- A step that answers nothing and keeps what is read. -/
theorem x_skipS {P : Program} {ops : Array Oper} {Q : Exit → Act → World → Prop} {S : World → Prop} {i : Nat} {r : List (Nat × Nat)} {a : Act} {w : World} {o : Oper} (ho : ops[i]? = some o) {w' : World} (hr : (execOp a.eval o).run P w = .ok .skip w') (hS : S w') (h : wpX P ops Q S r (a.put o.dst undef) w') : wpX P ops Q S ((i, 2) :: r) a w := by
  refine ⟨o, ho, ?_⟩
  simp only [Oper.wp, hr, Oper.upon]
  exact ⟨hS, h⟩
/-- 'len(m)'. -/
theorem exec_lenMap {P : Program} {T : TypeId} {w : World} {m clk : Nat} {es : Array MapEntry} {ρ : Operand → Value} {dst : Option Tmp} {ty : TypeId} {pos : String} {after : Array Edge} {g : Option (Nat × Bool)} (hT : P.underlying T = some (.map (P.mapKeyOf T) (P.mapElemOf T))) (hb : w.heap[m]? = some (.map es clk)) {x : Operand} (hx : ρ x = .map (some m)) :
    (execOp ρ ⟨dst, .call { callee := .builtin .len, args := #[x], argTypes := #[T] }, ty, pos, after, g⟩).run P w = .ok (.value (.int .i64 es.size)) w := by
  simp only [execOp, resolve, invoke, builtin, Sem.run_bind, Sem.run_pure, Result.andThen_ok, List.map_toArray, List.map_cons, List.map_nil, hx, run_len_map w T ty m es clk hT hb, goInt]
/-- A result that lies in cells. -/
theorem results_cellA {fn : Func} {t : Tmp} {T : TypeId} (h : fn.results = #[.cell t T]) (tmps : Array Value) {P : Program} {w : World} {b o : Nat} {cs : Array Value} (ht : tmps.getD t undef = .pointer (some ⟨b, o, none⟩)) (hT : AggT P T cs.size) (hL : Lies w b o cs) :
    (results fn tmps).run P w = .ok (.agg cs) w := by
  have hl := run_loadA hT hL
  simp only [Instr.loadAt, Instr.sureAddr, Sem.run_bind, Sem.run_pure, Result.andThen_ok] at hl
  have ht' : tmps[t]?.getD undef = .pointer (some ⟨b, o, none⟩) := by rw [← ht]; simp
  simp [results, h, ht', asAddr, hl]
end Go.Tn
