/- Regions with guards: a step that is off, in the walk's normal form. No program. -/
import Derived.Test.YteafnipciofamaaOrg
namespace Go.Tn
open Go.RowKit

section
variable {P : Program} {ops : Array Oper} {Q : Exit → Act → World → Prop} {S : World → Prop}
theorem g_offK {i t : Nat} {r : List (Nat × Nat)} {a : Act} {w : World} {o : Oper} (ho : ops[i]? = some o) (hw : Region.wanted o (yielded ops a.tmps) = false) (hS : t = 2 → S w) (h : ∀ K : Act → Prop, (∀ a, wpG P ops Q S r a w → K a) → K (a.put o.dst undef)) : wpG P ops Q S ((i, t) :: r) a w :=
  g_off ho hw hS (h _ fun _ h => h)
end
end Go.Tn
