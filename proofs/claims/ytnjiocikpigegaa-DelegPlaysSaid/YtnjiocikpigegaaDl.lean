/- The list of calls that a law is handed, as numbers. -/
import Derived.Test.YtnjiocikpigegaaDo
import Derived.WalkKit
import Derived.ProofKit
import Derived.OpenShut
import Derived.ShutString
import Derived.ChangeOld
import Derived.Below
import Derived.Lib.SmallJoins
namespace Go.Proofs.Ytnjiocikpigegaa
open Go.ChangeShapes Go.WideShapes Go.ChangeAt Go.RowKit Go.Tn Go.Joins

theorem Try.own : ownKnob Try.prog.godebug = none := by kernel_rfl
theorem Try.laidOut : laidOutB Try.prog = true := by kernel_rfl
theorem cellsF : Try.prog.cellsOf 24 = 2 := by kernel_rfl
theorem flatDo : flat Try.prog 3 29 = some [3, 3, 3, 3, 3] := by kernel_rfl
theorem cellsDo : Try.prog.cellsOf 29 = [3, 3, 3, 3, 3].length := by kernel_rfl

theorem dos_of {H : Type} {enc : TypeId × Value → H} {w : World} {base : Nat} {spare : Nat → Bool} {held : Bool} {ao : Option Addr} {n cap : Nat} {x : DataW H} {ps : List MemPlace}
    (h : DataW.Trod enc Try.prog w base spare held 22 (.slice ao n cap) x ps) :
    ∃ es : List DoR, LSl enD 5 w (.slice ao n cap) es := by
  rcases open_flat Try.underlying22 flatDo cellsDo (by decide) h ⟨_, _, _, rfl⟩ with hv | ⟨b, off, spot, len, cap', hv, hl, hm, hin, hc⟩
  · cases hv
    exact ⟨[], LSl.nil w⟩
  · cases hv
    have hex : ∀ i : Nat, ∃ d : DoR, i < n → Lies w b (off + i * 5) (enD d).toArray := fun i => by
      by_cases hi : i < n
      · have hz : ∀ j, j < 5 → ∃ z : Int, w.cell? ⟨b, off + i * 5 + j, none⟩ = some (.int .i64 z) := fun j hj => by
          obtain ⟨c, h1, h2⟩ := hc i hi j 3 (by
            match j, hj with
            | 0, _ => rfl
            | 1, _ => rfl
            | 2, _ => rfl
            | 3, _ => rfl
            | 4, _ => rfl)
          obtain ⟨z, rfl, _⟩ := h2.int Try.underlying3
          exact ⟨z, h1⟩
        obtain ⟨z0, h0⟩ := hz 0 (by decide)
        obtain ⟨z1, h1⟩ := hz 1 (by decide)
        obtain ⟨z2, h2⟩ := hz 2 (by decide)
        obtain ⟨z3, h3⟩ := hz 3 (by decide)
        obtain ⟨z4, h4⟩ := hz 4 (by decide)
        refine ⟨⟨z0, z1, z2, z3, z4⟩, fun _ j hj => ?_⟩
        have hj5 : j < 5 := by simpa [enD] using hj
        match j, hj5 with
        | 0, _ => exact h0
        | 1, _ => exact h1
        | 2, _ => exact h2
        | 3, _ => exact h3
        | 4, _ => exact h4
      · exact ⟨⟨0, 0, 0, 0, 0⟩, fun h => absurd h hi⟩
    have hlen : ((List.range n).map fun i => Classical.choose (hex i)).length = n := by simp
    refine ⟨(List.range n).map fun i => Classical.choose (hex i), _, cap, by rw [hlen], by rw [hlen]; exact hl, hm, fun h0 => ?_⟩
    rw [hlen] at h0
    refine ⟨b, off, by rw [(hin h0).1], (hin h0).2, fun i y hi => ?_⟩
    have hlt : i < n := by
      have := (List.getElem?_eq_some_iff.1 hi).1
      rwa [hlen] at this
    have : Classical.choose (hex i) = y := by simpa [hlt] using hi
    rw [← this]
    exact Classical.choose_spec (hex i) hlt
end Go.Proofs.Ytnjiocikpigegaa
