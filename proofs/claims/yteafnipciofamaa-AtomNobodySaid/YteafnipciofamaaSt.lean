/- A store of one cell, as one operation. No program. -/
import Derived.Test.YteafnipciofamaaOrd
import Derived.Test.YteafnipciofamaaPop
namespace Go.Tn
open Go.RowKit
variable {P : Program}

def plainV : Value → Bool
  | .int _ _ | .bool _ | .string _ | .pointer _ | .slice _ _ _ | .map _ => true
  | _ => false

theorem exec_store1 {ρ : Operand → Value} {dst : Option Tmp} {ty : TypeId} {pos : String} {after : Array Edge} {g : Option (Nat × Bool)} {t : TypeId} {x y : Operand} {w : World} {b o : Nat} {v old : Value} (hT : ScalarT P t) (hsz : (P.info? t).map (·.size) = some 1) (hx : ρ x = .pointer (some ⟨b, o, none⟩)) (hy : ρ y = v) (h1 : plainV v = true) (hc : w.cell? ⟨b, o, none⟩ = some old) (hf : w.frozen? ⟨b, o, none⟩ = false) :
    (execOp ρ ⟨dst, .store t x y, ty, pos, after, g⟩).run P w = .ok .skip (w.setCell ⟨b, o, none⟩ v) := by
  obtain ⟨d, hu, hd⟩ := hT.plain
  have hagg : (isAgg t).run P w = .ok false w := by cases d <;> simp at hd <;> simp [isAgg, underlying, hu]
  cases hq : P.info? t with
  | none => simp [hq] at hsz
  | some i =>
    have hs : i.size = 1 := by simpa [hq] using hsz
    have hso : (sizeOf t).run P w = .ok 1 w := by simp [sizeOf, typeInfo, hq, hs]
    cases v <;> first
      | (simp [execOp, hx, hy, Instr.storeAt, Instr.sureAddr, storeVar, hso, storeCells, hc, hf, go_sem]; done)
      | (exfalso; simp [plainV] at h1; done)

/-- An array's element. -/
theorem run_index1 {t e : TypeId} {n : Nat} {k : IntKind} {cs : Array Value} {i : Nat} {v : Value} {w : World} (ht : P.underlying t = some (.array n e)) (hT : ScalarT P e) (hsz : (P.info? e).map (·.size) = some 1) (hi : i < n) (hg : cs[i]? = some v) :
    (Instr.index t (.agg cs) (.int k i)).run P w = .ok v w := by
  obtain ⟨d, hu, hd⟩ := hT.plain
  have hagg : (isAgg e).run P w = .ok false w := by cases d <;> simp at hd <;> simp [isAgg, underlying, hu]
  cases hq : P.info? e with
  | none => simp [hq] at hsz
  | some x =>
    have hs : x.size = 1 := by simpa [hq] using hsz
    have hso : (sizeOf e).run P w = .ok 1 w := by simp [sizeOf, typeInfo, hq, hs]
    have h0 : (0 : Int) ≤ (i : Int) ∧ (i : Int) < (n : Int) := by omega
    simp [Instr.index, asIntOf, underlying, ht, hso, part, hagg, hg]
    omega
theorem exec_index1 {ρ : Operand → Value} {dst : Option Tmp} {ty : TypeId} {pos : String} {after : Array Edge} {g : Option (Nat × Bool)} {t e : TypeId} {n : Nat} {k : IntKind} {cs : Array Value} {i : Nat} {v : Value} {w : World} {x y : Operand} (ht : P.underlying t = some (.array n e)) (hT : ScalarT P e) (hsz : (P.info? e).map (·.size) = some 1) (hx : ρ x = .agg cs) (hy : ρ y = .int k i) (hi : i < n) (hg : cs[i]? = some v) :
    (execOp ρ ⟨dst, .index t x y, ty, pos, after, g⟩).run P w = .ok (.value v) w := by
  simp only [execOp, hx, hy, Sem.run_bind, run_index1 ht hT hsz hi hg, Result.andThen_ok, Sem.run_pure]
end Go.Tn

namespace Go.Tn.Bits
theorem fst_eq {g : Nat → Bool} {i n : Nat} (h : ∀ j, j < i → g j = false) (hi : g i = true) (hn : i < n) : fst g n = i := by
  rcases Nat.lt_trichotomy (fst g n) i with h1 | h1 | h1
  · have := fst_some (f := g) (m := n) (by omega)
    rw [h _ h1] at this; cases this
  · exact h1
  · have := fst_none (f := g) (m := n) h1
    rw [hi] at this; cases this
theorem fst_full {g : Nat → Bool} {n : Nat} (h : ∀ j, j < n → g j = false) : fst g n = n := by
  have hle := fst_le g n
  rcases Nat.lt_or_ge (fst g n) n with h1 | h1
  · have := fst_some (f := g) (m := n) h1
    rw [h _ h1] at this; cases this
  · omega
end Go.Tn.Bits
