/- Files: as keys, in boxes, in slices; their order. -/
import Derived.Test.YthckjciblngaaaaOps
import Derived.Test.YthckjciblngaaaaOrd
import Derived.Test.YthckjciblngaaaaOrg
import Derived.Test.YthckjciblngaaaaOrh
import Derived.Test.YthckjciblngaaaaSt
import Derived.Test.YthckjciblngaaaaLst
import Derived.Test.YthckjciblngaaaaItr
import Derived.Test.YthckjciblngaaaaSrt
import Derived.Test.YthckjciblngaaaaSlc
import Derived.Test.YthckjciblngaaaaRows
import Derived.BigQuiet
import Derived.WalkKit
import Derived.WalkSpells
import Derived.Deep.Cut
import Derived.Deep.LoopGhost
namespace Go.Proofs.Ythckjciblngaaaa
open Go.RowKit Go.Tn

/-- A file. -/
abbrev Fi := Int × Int
def encF (f : Fi) : Value := .agg #[.int .i64 f.1, .int .i64 f.2]
theorem keyF : KeyOK Try.prog 39 encF where
  now := ⟨_, Try.underlying39, fun a b => .inl rfl⟩
  eq := fun w a b => by
    obtain ⟨i, g⟩ := a
    obtain ⟨i', g'⟩ := b
    have : decide (((i, g) : Fi) = (i', g')) = (i == i' && g == g') := by
      rw [Bool.eq_iff_iff]; simp
    rw [this]
    simp [encF, Op.equal, Op.maxDepth, go_sem]
    repeat' split
    all_goals simp_all
  chk := fun e w a => by
    have h : ∀ n, (Instr.checkKey e (n + 4) 39 (encF a)).run Try.prog w = .ok () w := fun n => by
      simp [encF, Instr.checkKey, underlying, part, go_sem]
    exact h 9996
  bits := fun a => by simp [encF, Instr.sameBits]
theorem aggF (i g : Int) : AggT Try.prog 39 (#[.int .i64 i, .int .i64 g] : Array Value).size := ⟨⟨_, Try.underlying39, rfl⟩, by kernel_rfl⟩
theorem scalarMap : ScalarT Try.prog 52 := ⟨⟨_, Try.underlying52, rfl⟩⟩
/-- A box with a file. -/
theorem box_file {w : World} {i g : Int} {T : TypeId} : Lies (w.alloc (.cells #[.int .i64 i, .int .i64 g] T)) w.heap.size 0 #[.int .i64 i, .int .i64 g] := lies_of heap_alloc_at
/-- A file's two cells. -/
abbrev enF : Fi → List Value := fun f => [.int .i64 f.1, .int .i64 f.2]
theorem elF : ElT Try.prog 34 39 2 enF := ⟨Try.underlying34, by kernel_rfl, by decide, fun _ => rfl, fun x u hu => by simp [enF] at hu; rcases hu with rfl | rfl <;> rfl⟩

end Go.Proofs.Ythckjciblngaaaa
