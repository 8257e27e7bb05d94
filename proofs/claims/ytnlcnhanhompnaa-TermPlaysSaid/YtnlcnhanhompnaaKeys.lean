/- A map of numbers as the kit reads it: whose keys. No program. -/
import Derived.Test.YtnlcnhanhompnaaMaps
import Derived.Lib.SlKeysI
import Derived.Maps.Range
namespace Go.Tn
open Go.RowKit Go.Maps Go.WideElems Go.MapKept

/-- A key that is a number. -/
abbrev encI : Int → Value := Value.int .i64
def anyR : Value → Option (DataW Unit × List MemPlace) := fun _ => some (.nil, [])

theorem owns_ents {P : Program} {K : TypeId} (hK : P.underlying K = some (.int .i64)) {w : World} {m clk : Nat} {L : Ents Int} (hb : w.heap[m]? = some (.map (ents encI L) clk)) (hwf : WF L clk) (hk : ∀ e ∈ L, (Lit.int .i64 e.1).wf = true) (hl : L.length ≤ 1000) :
    ∃ D0 : DataW Unit, w.ownsMap P K anyR m L.length D0 ∧ (intKeys D0).Perm (L.map (·.1)) ∧ Maps.size D0 = L.length := by
  have hrd : ∀ e ∈ L, rd P K anyR ⟨encI e.1, e.2.1, e.2.2⟩ = some (Lit.int .i64 e.1, .nil) := fun e he => by
    simp [rd, anyR, keyOf_int_mk hK (hk e he)]
  have hrg : (ents encI L).toList.map (rg P K anyR) = L.map fun e => (Lit.int .i64 e.1, (DataW.nil : DataW Unit)) := by
    simp only [ents, List.map_map]
    refine List.map_congr_left fun e he => ?_
    show rg P K anyR ⟨encI e.1, e.2.1, e.2.2⟩ = _
    rw [rg, hrd e he]
    rfl
  refine ⟨_, ⟨ents encI L, clk, hb, ⟨?_, ⟨?_, ?_, ?_⟩, ?_⟩, ?_, rfl⟩, ?_, ?_⟩
  · simp [ents]; unfold maxLen; omega
  · intro x hx
    simp only [ents, List.mem_map] at hx
    obtain ⟨e, he, rfl⟩ := hx
    exact hwf.lt e he
  · have h := hwf.stamps
    simp only [ents, List.map_map]
    exact List.pairwise_map.2 (h.imp fun h => h)
  · have h := hwf.keys
    simp only [ents, List.map_map]
    exact List.pairwise_map.2 (h.imp fun h e => h (by simpa [encI] using e))
  · intro x hx
    simp only [ents, List.mem_map] at hx
    obtain ⟨e, he, rfl⟩ := hx
    exact ⟨_, hrd e he⟩
  · simp [ents]
  · rw [hrg]
    show (((L.map fun e => (Lit.int .i64 e.1, (DataW.nil : DataW Unit))).foldr DataW.insert []).map fun p => intOf p.1).Perm _
    refine ((WideShapes.sorted_perm _).map _).trans ?_
    rw [List.map_map]
    exact List.Perm.refl _
  · rw [hrg, Maps.size_eq, (WideShapes.sorted_perm _).length_eq, List.length_map]
end Go.Tn
