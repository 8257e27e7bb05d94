/- The plain law of what is asked of a ghost: which writes wait. No program. -/
import Derived.Test.YtbdjkbaieokbhaaGhost
import Derived.Test.YtbdjkbaieokbhaaMaps
namespace Go.Tn.Ghost
open Go.Tn

theorem step_nodup {k : Nat} {e : Evt} {S S' : St} (h : Step k e S S') (hk : ∀ p, ∀ j ∈ S.op p, j < k) (hn : ∀ p, (S.op p).Nodup) : ∀ p, (S'.op p).Nodup := by
  intro p
  unfold Step at h
  split at h
  · subst h
    simp only [write, updF]
    split
    · rename_i hp
      subst hp
      refine List.nodup_append.2 ⟨hn _, by simp, fun a ha b hb => ?_⟩
      simp at hb
      have := hk _ a ha
      omega
    · exact hn p
  · split at h
    · subst h
      unfold back
      split
      · exact hn p
      · simp only [updF]; split
        · simp
        · exact hn p
    · split at h
      · subst h
        simp only [lose, updF]; split
        · simp
        · exact hn p
      · split at h
        · rw [h.op]; split
          · simp
          · exact hn p
        · subst h; exact hn p

theorem reach_nodup {E : Nat → Evt} {n : Nat} : ∀ {k : Nat} {S : St}, k ≤ n → Reach E n k S → ∀ p, (S.op p).Nodup
  | 0, S, _, h => by simp [Reach] at h; subst h; intro p; simp [St.zero]
  | k + 1, S, hk, ⟨S1, h1, h2⟩ => step_nodup h2 (fun p j hj => ((reach_inv (by omega) h1).opIn p j hj).1) (reach_nodup (by omega) h1)

theorem reach_op {E : Nat → Evt} {n : Nat} {S : St} (h : Reach E n n S) (p : Pl) (j : Nat) : j ∈ S.op p ↔ j < n ∧ fate E n j = 1 ∧ plOf (E j) = p := by
  have I := reach_inv (Nat.le_refl n) h
  constructor
  · intro hj
    obtain ⟨h1, h3, rfl⟩ := I.opIn p j hj
    have A := I.at_ j h1 h1 h3
    exact ⟨h1, by unfold fate; rw [if_pos h3]; exact A.op.1 hj, rfl⟩
  · rintro ⟨h1, h2, rfl⟩
    unfold fate at h2
    split at h2
    · rename_i h3
      exact (I.at_ j h1 h1 h3).op.2 h2
    · omega

/-! ### Whether a loss is to be told -/
def tstep (c fi fg : Int) (e : Evt) (b : Bool) : Bool :=
  if e.c ≠ c then b else if e.k = 5 ∧ e.i = fi ∧ e.g = fg then true else if e.k = 8 ∨ (e.k = 7 ∧ e.i = fi ∧ e.g = fg ∧ e.re = 22) then false else b
/-- Behind the first events. -/
def told (c fi fg : Int) (E : Nat → Evt) : Nat → Bool
  | 0 => false
  | k + 1 => tstep c fi fg (E k) (told c fi fg E k)

theorem tcases (c fi fg : Int) (e : Evt) (b : Bool) :
    ((e.c != c) = true ∧ tstep c fi fg e b = b) ∨
    ((e.c != c) = false ∧ (e.i == fi) = true ∧ (e.g == fg) = true ∧
      (((e.k == 5) = true ∧ (e.k == 8) = false ∧ (e.k == 7) = false ∧ tstep c fi fg e b = true) ∨ ((e.k == 5) = false ∧ (e.k == 8) = true ∧ tstep c fi fg e b = false) ∨
       ((e.k == 5) = false ∧ (e.k == 8) = false ∧ (e.k == 7) = true ∧ (e.re == 22) = true ∧ tstep c fi fg e b = false) ∨
       ((e.k == 5) = false ∧ (e.k == 8) = false ∧ (e.k == 7) = true ∧ (e.re == 22) = false ∧ tstep c fi fg e b = b) ∨
       ((e.k == 5) = false ∧ (e.k == 8) = false ∧ (e.k == 7) = false ∧ tstep c fi fg e b = b))) ∨
    ((e.c != c) = false ∧ ((e.i == fi) = false ∨ ((e.i == fi) = true ∧ (e.g == fg) = false)) ∧
      (((e.k == 5) = true ∧ (e.k == 8) = false ∧ (e.k == 7) = false ∧ tstep c fi fg e b = b) ∨ ((e.k == 5) = false ∧ (e.k == 8) = true ∧ tstep c fi fg e b = false) ∨
       ((e.k == 5) = false ∧ (e.k == 8) = false ∧ (e.k == 7) = true ∧ tstep c fi fg e b = b) ∨
       ((e.k == 5) = false ∧ (e.k == 8) = false ∧ (e.k == 7) = false ∧ tstep c fi fg e b = b))) := by
  by_cases h1 : e.c = c
  · have e1 : (e.c != c) = false := by simp [h1]
    by_cases hm : e.i = fi ∧ e.g = fg
    · obtain ⟨h2, h3⟩ := hm
      refine .inr (.inl ⟨e1, by simp [h2], by simp [h3], ?_⟩)
      by_cases h5 : e.k = 5
      · exact .inl ⟨by simp [h5], by simp [h5], by simp [h5], by simp [tstep, h1, h2, h3, h5]⟩
      · by_cases h8 : e.k = 8
        · exact .inr (.inl ⟨by simp [h5], by simp [h8], by simp [tstep, h1, h8]⟩)
        · by_cases h7 : e.k = 7
          · by_cases hr : e.re = 22
            · exact .inr (.inr (.inl ⟨by simp [h5], by simp [h8], by simp [h7], by simp [hr], by simp [tstep, h1, h2, h3, h7, hr]⟩))
            · exact .inr (.inr (.inr (.inl ⟨by simp [h5], by simp [h8], by simp [h7], by simp [hr], by simp [tstep, h1, h7, hr]⟩)))
          · exact .inr (.inr (.inr (.inr ⟨by simp [h5], by simp [h8], by simp [h7], by simp [tstep, h1, h5, h7, h8]⟩)))
    · refine .inr (.inr ⟨e1, ?_, ?_⟩)
      · by_cases h2 : e.i = fi
        · exact .inr ⟨by simp [h2], by simpa using fun h3 => hm ⟨h2, h3⟩⟩
        · exact .inl (by simpa using h2)
      · have hm' : ∀ p : Prop, (e.i = fi ∧ e.g = fg ∧ p) ↔ False := fun p => ⟨fun h => hm ⟨h.1, h.2.1⟩, False.elim⟩
        by_cases h5 : e.k = 5
        · exact .inl ⟨by simp [h5], by simp [h5], by simp [h5], by simp [tstep, h1, hm, h5]⟩
        · by_cases h8 : e.k = 8
          · exact .inr (.inl ⟨by simp [h5], by simp [h8], by simp [tstep, h1, h8]⟩)
          · by_cases h7 : e.k = 7
            · exact .inr (.inr (.inl ⟨by simp [h5], by simp [h8], by simp [h7], by simp only [tstep, h1, h7, hm']; simp⟩))
            · exact .inr (.inr (.inr ⟨by simp [h5], by simp [h8], by simp [h7], by simp [tstep, h1, h5, h7, h8]⟩))
  · exact .inl ⟨by simpa using h1, by simp [tstep, h1]⟩

/-! ### Which writes wait -/
def good (c fi fg : Int) (p : Pl) : Prop := p.c = c ∧ p.i = fi ∧ p.g = fg
instance (c fi fg : Int) (p : Pl) : Decidable (good c fi fg p) := by unfold good; exact inferInstance
/-- Of the first k. -/
def waits (c fi fg : Int) (E : Nat → Evt) (n k : Nat) : List Nat := (List.range k).filter fun j => decide (fate E n j = 1 ∧ good c fi fg (plOf (E j)))
theorem waits_succ (c fi fg : Int) (E : Nat → Evt) (n k : Nat) : waits c fi fg E n (k + 1) = waits c fi fg E n k ++ (if fate E n k = 1 ∧ good c fi fg (plOf (E k)) then [k] else []) := by
  unfold waits
  rw [List.range_succ, List.filter_append]
  congr 1
  by_cases h : fate E n k = 1 ∧ good c fi fg (plOf (E k))
  · simp [h]
  · rw [if_neg h]
    simp only [List.filter_cons, List.filter_nil]
    rw [decide_eq_false h]
    rfl
theorem waits_len (c fi fg : Int) (E : Nat → Evt) (n k : Nat) : (waits c fi fg E n k).length ≤ k := by
  have := List.length_filter_le (fun j => decide (fate E n j = 1 ∧ good c fi fg (plOf (E j)))) (List.range k)
  simpa [waits] using this
theorem waits_sorted (c fi fg : Int) (E : Nat → Evt) (n k : Nat) : (waits c fi fg E n k).Pairwise (· < ·) := (List.pairwise_lt_range (n := k)).filter _
theorem waits_nodup (c fi fg : Int) (E : Nat → Evt) (n k : Nat) : (waits c fi fg E n k).Nodup := (waits_sorted c fi fg E n k).imp fun h => Nat.ne_of_lt h

/-- What was collected of the places that were seen. -/
structure Coll (c fi fg : Int) (S : St) (L : Ents Pl) (seen : Array Nat) (xs : List Nat) : Prop where
  nd : xs.Nodup
  mem : ∀ j, j ∈ xs ↔ ∃ e ∈ L, e.2.2 ∈ seen ∧ good c fi fg e.1 ∧ j ∈ S.op e.1
theorem Coll.start (c fi fg : Int) (S : St) (L : Ents Pl) : Coll c fi fg S L #[] [] := ⟨by simp, fun j => ⟨fun h => (by cases h), fun ⟨e, _, h, _⟩ => (by simp at h)⟩⟩
theorem Coll.skip {c fi fg : Int} {S : St} {L : Ents Pl} {seen : Array Nat} {xs : List Nat} {clk : Nat} (h : Coll c fi fg S L seen xs) (hw : WF L clk) {e : Pl × Go.Value × Nat} (he : e ∈ L) (hg : ¬ good c fi fg e.1) : Coll c fi fg S L (seen.push e.2.2) xs := by
  refine ⟨h.nd, fun j => (h.mem j).trans ⟨fun ⟨e', h1, h2, h3⟩ => ⟨e', h1, Array.mem_push.2 (.inl h2), h3⟩, fun ⟨e', h1, h2, h3, h4⟩ => ⟨e', h1, ?_, h3, h4⟩⟩⟩
  rcases Array.mem_push.1 h2 with h2 | h2
  · exact h2
  · obtain ⟨n, hn⟩ := List.getElem?_of_mem he
    obtain ⟨n', hn'⟩ := List.getElem?_of_mem h1
    have := hw.stamp hn n' e' hn' h2
    subst this
    rw [hn] at hn'
    cases hn'
    exact absurd h3 hg
theorem Coll.more {c fi fg : Int} {E : Nat → Evt} {n : Nat} {S : St} {L : Ents Pl} {seen : Array Nat} {xs : List Nat} {clk : Nat} (h : Coll c fi fg S L seen xs) (hR : Reach E n n S) (hw : WF L clk) {e : Pl × Go.Value × Nat} (he : e ∈ L) (hs : e.2.2 ∉ seen) (hg : good c fi fg e.1) : Coll c fi fg S L (seen.push e.2.2) (xs ++ S.op e.1) := by
  refine ⟨List.nodup_append.2 ⟨h.nd, reach_nodup (Nat.le_refl n) hR e.1, fun a ha b hb hab => ?_⟩, fun j => ?_⟩
  · subst hab
    obtain ⟨e', h1, h2, h3, h4⟩ := (h.mem a).1 ha
    have k1 := ((reach_op hR e'.1 a).1 h4).2.2
    have k2 := ((reach_op hR e.1 a).1 hb).2.2
    obtain ⟨m, hm⟩ := List.getElem?_of_mem he
    obtain ⟨m', hm'⟩ := List.getElem?_of_mem h1
    have := hw.key hm m' e' hm' (k1.symm.trans k2)
    subst this
    rw [hm] at hm'
    cases hm'
    exact hs h2
  · rw [List.mem_append, h.mem j]
    constructor
    · rintro (⟨e', h1, h2, h3⟩ | h1)
      · exact ⟨e', h1, Array.mem_push.2 (.inl h2), h3⟩
      · exact ⟨e, he, Array.mem_push.2 (.inr rfl), hg, h1⟩
    · rintro ⟨e', h1, h2, h3, h4⟩
      rcases Array.mem_push.1 h2 with h2 | h2
      · exact .inl ⟨e', h1, h2, h3, h4⟩
      · obtain ⟨m, hm⟩ := List.getElem?_of_mem he
        obtain ⟨m', hm'⟩ := List.getElem?_of_mem h1
        have := hw.stamp hm m' e' hm' h2
        subst this
        rw [hm] at hm'
        cases hm'
        exact .inr h4
theorem Coll.perm {c fi fg : Int} {E : Nat → Evt} {n : Nat} {S : St} {L : Ents Pl} {seen : Array Nat} {xs : List Nat} (h : Coll c fi fg S L seen xs) (hR : Reach E n n S) (hL : ∀ p, (∀ e ∈ L, e.1 ≠ p) → S.op p = []) (hall : ∀ e ∈ L, e.2.2 ∈ seen) : xs.Perm (waits c fi fg E n n) := by
  refine (List.perm_ext_iff_of_nodup h.nd (waits_nodup c fi fg E n n)).2 fun j => ?_
  rw [h.mem j]
  unfold waits
  rw [List.mem_filter, List.mem_range, decide_eq_true_eq]
  constructor
  · rintro ⟨e, h1, h2, h3, h4⟩
    obtain ⟨k1, k2, k3⟩ := (reach_op hR e.1 j).1 h4
    exact ⟨k1, k2, by rw [k3]; exact h3⟩
  · rintro ⟨h1, h2, h3⟩
    have hj := (reach_op hR (plOf (E j)) j).2 ⟨h1, h2, rfl⟩
    by_cases hex : ∃ e ∈ L, e.1 = plOf (E j)
    · obtain ⟨e, he, hp⟩ := hex
      exact ⟨e, he, hall e he, by rw [hp]; exact h3, by rw [hp]; exact hj⟩
    · rw [hL _ (fun e he hp => hex ⟨e, he, hp⟩)] at hj
      cases hj
theorem Coll.len {c fi fg : Int} {E : Nat → Evt} {n : Nat} {S : St} {L : Ents Pl} {seen : Array Nat} {xs : List Nat} (h : Coll c fi fg S L seen xs) (hR : Reach E n n S) : xs.length ≤ n := by
  have hp : xs.Perm ((List.range n).filter fun j => decide (j ∈ xs)) := by
    refine (List.perm_ext_iff_of_nodup h.nd ((List.nodup_range (n := n)).filter _)).2 fun j => ?_
    rw [List.mem_filter, List.mem_range, decide_eq_true_eq]
    refine ⟨fun hj => ⟨?_, hj⟩, fun hj => hj.2⟩
    obtain ⟨e, h1, h2, h3, h4⟩ := (h.mem j).1 hj
    exact ((reach_op hR e.1 j).1 h4).1
  rw [hp.length_eq]
  have := List.length_filter_le (fun j => decide (j ∈ xs)) (List.range n)
  simpa using this
end Go.Tn.Ghost
