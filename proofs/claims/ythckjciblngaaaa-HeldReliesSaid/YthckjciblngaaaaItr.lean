/- A range over a map of any keys: what has come, what is left; and an operation under a fence. No program. -/
import Derived.Test.YthckjciblngaaaaMaps
import Derived.Test.YthckjciblngaaaaOps
import Derived.Shelf.SlIterI.Collect
namespace Go.Tn
open Go.RowKit
variable {κ : Type} {enc : κ → Value}

def iterLeftK (w : World) (it m : Nat) : Nat :=
  match w.heap[it]?, w.heap[m]? with
  | some (.mapIter _ _ seen _), some (.map es _) => (es.toList.filter fun e => !seen.contains e.born).length
  | _, _ => 0
theorem iterLeftK_eq {w : World} {it m s l clk : Nat} {seen : Array Nat} {L : Ents κ} {mo : Option Nat} (hi : w.heap[it]? = some (.mapIter mo s seen l)) (hb : w.heap[m]? = some (.map (ents enc L) clk)) :
    iterLeftK w it m = (L.filter fun e => !seen.contains e.2.2).length := by
  simp only [iterLeftK, hi, hb, ents, List.filter_map, List.length_map]
  rfl
theorem leftK_push {L : Ents κ} {seen : Array Nat} {e : κ × Value × Nat} (he : e ∈ L) (hs : e.2.2 ∉ seen) :
    (L.filter fun x => !(seen.push e.2.2).contains x.2.2).length < (L.filter fun x => !seen.contains x.2.2).length := by
  have hsub : (L.filter fun x => !(seen.push e.2.2).contains x.2.2) = (L.filter fun x => !seen.contains x.2.2).filter (fun x => decide (x.2.2 ≠ e.2.2)) := by
    rw [List.filter_filter]
    apply List.filter_congr
    intro x _
    by_cases hx : x.2.2 = e.2.2 <;> simp [hx]
  rw [hsub]
  have hm : e ∈ L.filter fun x => !seen.contains x.2.2 := List.mem_filter.2 ⟨he, by simpa using hs⟩
  refine Nat.lt_of_le_of_ne (List.length_filter_le _ _) fun heq => ?_
  have := List.length_filter_eq_length_iff.1 heq e hm
  simp at this

theorem nodup_len [DecidableEq κ] {xs ys : List κ} (hx : xs.Nodup) (hy : ys.Nodup) (h : ∀ x ∈ xs, x ∈ ys) : xs.length ≤ ys.length := by
  have hp : xs.Perm (ys.filter fun y => decide (y ∈ xs)) := (List.perm_ext_iff_of_nodup hx (hy.filter _)).2 fun a => by
    rw [List.mem_filter, decide_eq_true_iff]
    exact ⟨fun ha => ⟨h a ha, ha⟩, fun ha => ha.2⟩
  rw [hp.length_eq]
  exact List.length_filter_le _ _

/-- What has come of the keys. -/
structure KeysSeen (L : Ents κ) (seen : Array Nat) (ss : List κ) : Prop where
  nd : ss.Nodup
  mem : ∀ x, x ∈ ss ↔ ∃ e ∈ L, e.1 = x ∧ e.2.2 ∈ seen
theorem KeysSeen.start (L : Ents κ) : KeysSeen L #[] [] := ⟨.nil, fun x => ⟨fun h => (by cases h), fun ⟨e, _, _, h⟩ => (by simp at h)⟩⟩
theorem keys_nodup {L : Ents κ} {clk : Nat} (hw : WF L clk) : (L.map (·.1)).Nodup := List.pairwise_map.2 (hw.keys.imp fun h => h)
theorem KeysSeen.more {L : Ents κ} {seen : Array Nat} {ss : List κ} {clk : Nat} (h : KeysSeen L seen ss) (hw : WF L clk) {e : κ × Value × Nat} (he : e ∈ L) (hs : e.2.2 ∉ seen) : KeysSeen L (seen.push e.2.2) (ss ++ [e.1]) := by
  obtain ⟨n, hn⟩ := List.getElem?_of_mem he
  refine ⟨List.nodup_append.2 ⟨h.nd, by simp, fun a ha b hb hab => ?_⟩, fun x => ?_⟩
  · have hb' : b = e.1 := by simpa using hb
    subst hab
    obtain ⟨e', h1, h2, h3⟩ := (h.mem a).1 ha
    obtain ⟨n', hn'⟩ := List.getElem?_of_mem h1
    have := hw.key hn n' e' hn' (h2.trans hb')
    subst this
    rw [hn] at hn'
    cases hn'
    exact hs h3
  · rw [List.mem_append, h.mem x]
    constructor
    · rintro (⟨e', h1, h2, h3⟩ | h1)
      · exact ⟨e', h1, h2, Array.mem_push.2 (.inl h3)⟩
      · have : x = e.1 := by simpa using h1
        exact ⟨e, he, this.symm, Array.mem_push.2 (.inr rfl)⟩
    · rintro ⟨e', h1, h2, h3⟩
      rcases Array.mem_push.1 h3 with h3 | h3
      · exact .inl ⟨e', h1, h2, h3⟩
      · obtain ⟨n', hn'⟩ := List.getElem?_of_mem h1
        have := hw.stamp hn n' e' hn' h3
        subst this
        rw [hn] at hn'
        cases hn'
        exact .inr (by simp [← h2])
theorem KeysSeen.len [DecidableEq κ] {L : Ents κ} {seen : Array Nat} {ss : List κ} {clk : Nat} (h : KeysSeen L seen ss) (hw : WF L clk) : ss.length ≤ L.length := by
  have := nodup_len h.nd (keys_nodup hw) fun x hx => by
    obtain ⟨e, h1, h2, _⟩ := (h.mem x).1 hx
    exact List.mem_map.2 ⟨e, h1, h2⟩
  simpa using this
theorem KeysSeen.perm {L : Ents κ} {seen : Array Nat} {ss : List κ} {clk : Nat} (h : KeysSeen L seen ss) (hw : WF L clk) (hall : ∀ e ∈ L, e.2.2 ∈ seen) : ss.Perm (L.map (·.1)) :=
  (List.perm_ext_iff_of_nodup h.nd (keys_nodup hw)).2 fun x => by
    rw [h.mem x, List.mem_map]
    exact ⟨fun ⟨e, h1, h2, _⟩ => ⟨e, h1, h2⟩, fun ⟨e, h1, h2⟩ => ⟨e, h1, h2, hall e h1⟩⟩

/-- One operation under a fence. -/
theorem wpListIn_exec {F : Fence} {n : Nat} {P : Program} {ops : Array Oper} {Q : Exit → Act → World → Prop} {rest : List Oper} {o : Oper} {a : Act} {w w' : World} {v : Value} (hg : o.guard = none) (ha : o.about P w a.eval = none) (hd : ∀ c, o.op ≠ .defer c)
    (hr : (execOp a.eval o).run P w = .ok (.value v) w') (h : wpListIn F n P ops Q rest (a.put o.dst v) w') : wpListIn F n P ops Q (o :: rest) a w := by
  refine wpListIn_plain hg fun K' hK' => ?_
  unfold Oper.wpIn
  refine ⟨(by rw [ha]; intro f hf; cases hf), ?_⟩
  rw [Oper.semAt_eq _ _ _ hd, hr]
  exact hK' _ _ h
theorem setObjW_grown (w : World) (nd r : Nat) (o : Obj) : w.grownBy (setObjW (w.drewN nd) r o) (some r) :=
  ⟨rfl, rfl, rfl, by simp [setObjW], fun k _ hk => setObjW_ne (fun e => hk (by rw [e]))⟩
theorem alloc_grown (w : World) (o : Obj) : w.grownBy (w.alloc o) none :=
  ⟨rfl, rfl, rfl, by simp, fun k hk _ => Below.heap_alloc _ _ _ hk⟩
end Go.Tn
