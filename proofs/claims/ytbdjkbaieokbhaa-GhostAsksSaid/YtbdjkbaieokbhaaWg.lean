import Derived.Test.YtbdjkbaieokbhaaWf
namespace Go.Proofs.Ytbdjkbaieokbhaa
open Go.RowKit Go.Tn Go.Tn.Ghost

/-- How many entries an iterator has still to come to. -/
def iterLeft (w : World) (it m : Nat) : Nat :=
  match w.heap[it]?, w.heap[m]? with
  | some (.mapIter _ _ seen _), some (.map es _) => (es.toList.filter fun e => !seen.contains e.born).length
  | _, _ => 0

theorem iterLeft_eq {w : World} {it m s l clk : Nat} {seen : Array Nat} {L : Ents Pl} {mo : Option Nat} (hi : w.heap[it]? = some (.mapIter mo s seen l)) (hb : w.heap[m]? = some (.map (ents encP L) clk)) :
    iterLeft w it m = (L.filter fun e => !seen.contains e.2.2).length := by
  simp only [iterLeft, hi, hb, ents, List.filter_map, List.length_map]
  rfl

/-- Nothing of place p is to come any more. -/
def Done (L : Ents Pl) (seen : Array Nat) (p : Pl) : Prop := ∀ e ∈ L, e.1 = p → e.2.2 ∈ seen

/-- Where a crash of client c stands, when these entries are left of the map, and these were seen. -/
structure Half (c : Int) (S S' : St) (L : Ents Pl) (seen : Array Nat) : Prop where
  len : S'.fates.length = S.fates.length
  done : ∀ p, p.c = c → Done L seen p → S'.op p = [] ∧ S'.li p = S.li p ++ S.op p
  rest : ∀ p, ¬ (p.c = c ∧ Done L seen p) → S'.op p = S.op p ∧ S'.li p = S.li p
  hit : ∀ (i : Nat) p, p.c = c → Done L seen p → i ∈ S.op p → i < S.fates.length → S'.fates[i]? = some 3
  miss : ∀ (i : Nat), (∀ p, p.c = c → Done L seen p → i ∉ S.op p) → S'.fates[i]? = S.fates[i]?

theorem Half.start {c : Int} {S : St} {L : Ents Pl} (h : ∀ p, (∀ e ∈ L, e.1 ≠ p) → S.op p = []) : Half c S S L #[] := by
  have nd : ∀ p, Done L #[] p → S.op p = [] := fun p hd => h p (fun e he hp => by have := hd e he hp; simp at this)
  exact ⟨rfl, fun p _ hd => by simp [nd p hd], fun p _ => ⟨rfl, rfl⟩, fun i p _ hd hi => (by rw [nd p hd] at hi; cases hi), fun i _ => rfl⟩

theorem Half.crashed {c : Int} {S S' : St} {L : Ents Pl} {seen : Array Nat} (h : Half c S S' L seen) (hall : ∀ e ∈ L, e.2.2 ∈ seen) : Crashed c S S' := by
  have hd : ∀ p, Done L seen p := fun p e he _ => hall e he
  refine ⟨h.len, fun i p hp hi hl => h.hit i p hp (hd p) hi hl, fun i hi => h.miss i (fun p hp _ => hi p hp), fun p => ?_, fun p => ?_⟩
  · split
    · rename_i hp; exact (h.done p hp (hd p)).1
    · rename_i hp; exact (h.rest p (fun h => hp h.1)).1
  · split
    · rename_i hp; exact (h.done p hp (hd p)).2
    · rename_i hp; exact (h.rest p (fun h => hp h.1)).2

theorem done_push {L : Ents Pl} {clk : Nat} (hw : WF L clk) {seen : Array Nat} {e : Pl × Value × Nat} (he : e ∈ L) {q : Pl} (hq : q ≠ e.1) : Done L (seen.push e.2.2) q ↔ Done L seen q := by
  constructor
  · intro h e' he' hk
    have := h e' he' hk
    rw [Array.mem_push] at this
    rcases this with h1 | h1
    · exact h1
    · obtain ⟨n, hn⟩ := List.getElem?_of_mem he
      obtain ⟨n', hn'⟩ := List.getElem?_of_mem he'
      have := hw.stamp hn n' e' hn' h1
      subst this
      rw [hn] at hn'; cases hn'
      exact absurd hk.symm hq
  · intro h e' he' hk
    exact Array.mem_push.2 (.inl (h e' he' hk))

theorem not_done {L : Ents Pl} {seen : Array Nat} {e : Pl × Value × Nat} (he : e ∈ L) (hs : e.2.2 ∉ seen) : ¬ Done L seen e.1 := fun h => hs (h e he rfl)

theorem Half.skip {c : Int} {S S' : St} {L : Ents Pl} {clk : Nat} {seen : Array Nat} {e : Pl × Value × Nat} (h : Half c S S' L seen) (hw : WF L clk) (he : e ∈ L) (hc : e.1.c ≠ c) : Half c S S' L (seen.push e.2.2) := by
  have key : ∀ q, q.c = c → (Done L (seen.push e.2.2) q ↔ Done L seen q) := fun q hq => done_push hw he (fun h => hc (h ▸ hq))
  refine ⟨h.len, fun p hp hd => h.done p hp ((key p hp).1 hd), fun p hn => h.rest p (fun hh => hn ⟨hh.1, (key p hh.1).2 hh.2⟩), fun i p hp hd => h.hit i p hp ((key p hp).1 hd), fun i hi => h.miss i (fun p hp hd => hi p hp ((key p hp).2 hd))⟩

theorem Half.lost {c : Int} {S S' : St} {L : Ents Pl} {clk : Nat} {seen : Array Nat} {e : Pl × Value × Nat} (h : Half c S S' L seen) (hw : WF L clk) (he : e ∈ L) (hs : e.2.2 ∉ seen) (hc : e.1.c = c) : Half c S (lose e.1 S') (del e.1 L) (seen.push e.2.2) := by
  obtain ⟨ho, hl⟩ := h.rest e.1 (fun hh => not_done he hs hh.2)
  have hdp : Done (del e.1 L) (seen.push e.2.2) e.1 := fun e' he' hk => absurd hk ((mem_del hw).1 he').2
  have key : ∀ q, q ≠ e.1 → (Done (del e.1 L) (seen.push e.2.2) q ↔ Done L seen q) := fun q hq => by
    rw [← done_push hw (seen := seen) he hq]
    constructor
    · exact fun hd e' he' hk => hd e' ((mem_del hw).2 ⟨he', fun hh => hq (hk.symm.trans hh)⟩) hk
    · exact fun hd e' he' hk => hd e' ((mem_del hw).1 he').1 hk
  refine ⟨by simp [lose, setAll_length, h.len], fun p hp hd => ?_, fun p hn => ?_, fun i p hp hd hi hlt => ?_, fun i hi => ?_⟩
  · by_cases hpe : p = e.1
    · subst hpe; simp [lose, updF, ho, hl]
    · have := h.done p hp ((key p hpe).1 hd)
      simpa [lose, updF, hpe] using this
  · by_cases hpe : p = e.1
    · subst hpe; exact absurd ⟨hc, hdp⟩ hn
    · have := h.rest p (fun hh => hn ⟨hh.1, (key p hpe).2 hh.2⟩)
      simpa [lose, updF, hpe] using this
  · simp only [lose]
    rw [setAll_get 3 _ _ i (by rw [h.len]; exact hlt)]
    by_cases hpe : p = e.1
    · subst hpe; rw [ho, if_pos hi]
    · split
      · rfl
      · exact h.hit i p hp ((key p hpe).1 hd) hi hlt
  · have h1 := h.miss i (fun p hp hd => by
      by_cases hpe : p = e.1
      · subst hpe; exact absurd hd (not_done he hs)
      · exact hi p hp ((key p hpe).2 hd))
    simp only [lose]
    by_cases hlt : i < S'.fates.length
    · rw [setAll_get 3 _ _ i hlt, if_neg (by rw [ho]; exact hi e.1 hc hdp)]
      exact h1
    · have e1 : (setAll S'.fates (S'.op e.1) 3)[i]? = none := by rw [List.getElem?_eq_none]; rw [setAll_length]; omega
      have e2 : S.fates[i]? = none := by rw [List.getElem?_eq_none]; rw [← h.len]; omega
      rw [e1, e2]

theorem left_push {L : Ents Pl} {clk : Nat} (hw : WF L clk) {seen : Array Nat} {e : Pl × Value × Nat} (he : e ∈ L) (hs : e.2.2 ∉ seen) :
    (L.filter fun x => !(seen.push e.2.2).contains x.2.2).length < (L.filter fun x => !seen.contains x.2.2).length := by
  have hsub : (L.filter fun x => !(seen.push e.2.2).contains x.2.2) = (L.filter fun x => !seen.contains x.2.2).filter (fun x => decide (x.2.2 ≠ e.2.2)) := by
    rw [List.filter_filter]
    apply List.filter_congr
    intro x _
    simp [Array.contains_push, Bool.and_comm, eq_comm]
  rw [hsub]
  refine (List.length_filter_lt_length_iff_exists).2 ⟨e, ?_, by simp⟩
  simp [he, hs]

end Go.Proofs.Ytbdjkbaieokbhaa
