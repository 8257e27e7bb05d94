/- A range over a map whose elements are changed in its rounds: keys and stamps stay. No program. -/
import Derived.Test.YthckjciblngaaaaItr
namespace Go.Tn
open Go.RowKit
variable {κ : Type} {enc : κ → Value}

def ksL (L : Ents κ) : List (κ × Nat) := L.map fun e => (e.1, e.2.2)
theorem ksL_mem {L L' : Ents κ} (h : ksL L' = ksL L) {e : κ × Value × Nat} (he : e ∈ L') : ∃ e' ∈ L, e'.1 = e.1 ∧ e'.2.2 = e.2.2 := by
  have : (e.1, e.2.2) ∈ ksL L := by rw [← h]; exact List.mem_map.2 ⟨e, he, rfl⟩
  obtain ⟨e', h1, h2⟩ := List.mem_map.1 this
  exact ⟨e', h1, (Prod.mk.inj h2).1, (Prod.mk.inj h2).2⟩
theorem WF.ks {L L' : Ents κ} {clk : Nat} (h : WF L clk) (hk : ksL L' = ksL L) : WF L' clk := by
  have h1 : (ksL L).Pairwise (fun a b => a.1 ≠ b.1) := List.pairwise_map.2 (h.keys.imp fun h => h)
  have h2 : (ksL L).Pairwise (fun a b => a.2 ≠ b.2) := List.pairwise_map.2 (h.stamps.imp fun h => h)
  rw [← hk] at h1 h2
  refine ⟨(List.pairwise_map.1 h1).imp fun h => h, (List.pairwise_map.1 h2).imp fun h => h, fun e he => ?_⟩
  obtain ⟨e', h3, _, h4⟩ := ksL_mem hk he
  rw [← h4]
  exact h.lt e' h3
theorem KeysSeen.ks {L L' : Ents κ} {seen : Array Nat} {ss : List κ} (h : KeysSeen L seen ss) (hk : ksL L' = ksL L) : KeysSeen L' seen ss :=
  ⟨h.nd, fun x => by
    rw [h.mem x]
    constructor
    · rintro ⟨e, h1, h2, h3⟩
      obtain ⟨e', h4, h5, h6⟩ := ksL_mem hk.symm h1
      exact ⟨e', h4, h5.trans h2, by rw [h6]; exact h3⟩
    · rintro ⟨e, h1, h2, h3⟩
      obtain ⟨e', h4, h5, h6⟩ := ksL_mem hk h1
      exact ⟨e', h4, h5.trans h2, by rw [h6]; exact h3⟩⟩
theorem leftK_ks {L L' : Ents κ} {seen : Array Nat} (hk : ksL L' = ksL L) : (L'.filter fun e => !seen.contains e.2.2).length = (L.filter fun e => !seen.contains e.2.2).length := by
  have h : ∀ M : Ents κ, (M.filter fun e => !seen.contains e.2.2).length = ((ksL M).filter fun p => !seen.contains p.2).length := fun M => by
    unfold ksL
    rw [List.filter_map, List.length_map]
    rfl
  rw [h, h, hk]
theorem ksL_len {L L' : Ents κ} (hk : ksL L' = ksL L) : L'.length = L.length := by
  have := congrArg List.length hk
  simpa [ksL] using this
variable [DecidableEq κ]
theorem upd_ks {k : κ} {v : Value} {L : Ents κ} {clk : Nat} (h : get k L ≠ none) : ksL (upd k v L clk) = ksL L ∧ updClk k L clk = clk := by
  cases hl : look k L 0 with
  | none => exact absurd (get_none.2 fun e he hk => look_none.1 hl e he hk) h
  | some x =>
    obtain ⟨i, u⟩ := x
    refine ⟨?_, by unfold updClk; rw [hl]; rfl⟩
    unfold upd
    rw [hl]
    show ksL (L.modify i fun e => (e.1, v, e.2.2)) = ksL L
    unfold ksL
    apply List.ext_getElem?
    intro j
    rw [List.getElem?_map, List.getElem?_map, List.getElem?_modify]
    cases L[j]? with
    | none => simp
    | some e =>
      by_cases hj : i = j <;> simp [hj]
end Go.Tn
