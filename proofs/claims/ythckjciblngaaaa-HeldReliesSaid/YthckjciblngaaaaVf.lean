/- The law HeldRelies: where it stands. -/
import Derived.Test.YthckjciblngaaaaVe
import Derived.Test.YthckjciblngaaaaHd
namespace Go.Proofs.Ythckjciblngaaaa
open Go.RowKit Go.Tn Go.Maps Go.Sort Go.Shelf

/-- Where the law stands. -/
structure SR (w0 w : World) (b xb n cm : Nat) (C : Fi → Bool) (ph bo : Int) (G : Gs) (S T : Nat → Prop) : Prop where
  both : Both w b xb n S T ph bo G
  map : CMap w cm C
  cs : ¬ S cm
  ct : ¬ T cm
  cl : w0.heap.size ≤ cm
  sl : ∀ x, S x ∨ T x → w0.heap.size ≤ x
  bel : Below w0.heap.size w0 w
section
variable {w0 w w' : World} {b xb n cm : Nat} {C : Fi → Bool} {ph bo : Int} {G : Gs} {S T : Nat → Prop} {A : Fi → Prop} {B : Prop}
theorem SR.keep (h : SR w0 w b xb n cm C ph bo G S T) (hb : Below w.heap.size w w') : SR w0 w' b xb n cm C ph bo G S T :=
  ⟨h.both.below hb, h.map.mod (Mod.of_below hb) (Nat.not_le.2 h.map.lt), h.cs, h.ct, h.cl, h.sl, h.bel.trans (hb.mono h.bel.size)⟩
theorem SR.set {C' : Fi → Bool} (h : SR w0 w b xb n cm C ph bo G S T) (hm : Mod (fun x => x = cm) w w') (hC : CMap w' cm C') : SR w0 w' b xb n cm C' ph bo G S T :=
  ⟨⟨h.both.p.mod hm fun x hx e => h.cs (e ▸ hx), h.both.r.mod hm fun x hx e => h.ct (e ▸ hx), h.both.d⟩, hC, h.cs, h.ct, h.cl, h.sl, h.bel.trans (hm.below h.bel.size fun x hx e => by have := h.cl; omega)⟩
theorem SR.fresh (h : SR w0 w b xb n cm C ph bo G S T) : SR w0 (w.alloc (.map #[] 0)) b xb n w.heap.size (fun _ => false) ph bo G S T := by
  have hb : Below w.heap.size w (w.alloc (.map #[] 0)) := (Below.refl _ _).alloc (Nat.le_refl _) _
  have k := h.keep hb
  exact ⟨k.both, CMap.new, h.both.not_s, h.both.not_t, h.bel.size, h.sl, k.bel⟩
theorem SR.does (h : SR w0 w b xb n cm C ph bo G S T) (hd : DDone A B w b xb (n + 2) S T ph bo G w') : ∃ ph' bo' G' S' T', SR w0 w' b xb (n + 2) cm C ph' bo' G' S' T' ∧ Tm A B ph bo G ph' bo' G' := by
  obtain ⟨ph', bo', G', S', T', h1, h2, h3, h4⟩ := hd
  have hcm := h.map.lt
  refine ⟨ph', bo', G', S', T', ⟨h1, h.map.mod h3 (fun e => by rcases e with e | e; exact h.cs e; exact h.ct e), fun e => ?_, fun e => ?_, h.cl, fun x hx => ?_, h.bel.trans (h3.below h.bel.size fun x hx e => Nat.not_le.2 hx (h.sl x e))⟩, h2⟩
  · rcases h4 cm (.inl e) with e | e
    · rcases e with e | e
      · exact h.cs e
      · exact h.ct e
    · omega
  · rcases h4 cm (.inr e) with e | e
    · rcases e with e | e
      · exact h.cs e
      · exact h.ct e
    · omega
  · rcases h4 x hx with e | e
    · exact h.sl x e
    · exact Nat.le_trans h.bel.size e
theorem SR.start {m lb : Nat} (h2 : HAt w b m lb 0 0 0 [] 0 (fun _ => none) (.slice none 0 0) [] 9 0) (hb : w0.heap.size ≤ b) (hm : w0.heap.size ≤ m) (hl : w0.heap.size ≤ lb) (hbel : Below w0.heap.size w0 w) :
    ∃ S T, SR w0 (((w.alloc (.cells #[.int .i64 9, .slice none 0 0] 31)).alloc (.cells #[.int .i64 0, .int .u64 0, .int .u64 0, .slice none 0 0, .slice none 0 0, .pointer (some ⟨w.heap.size, 0, none⟩)] 36)).alloc (.map #[] 0)) b (w.heap.size + 1) 0 (w.heap.size + 2) (fun _ => false) 0 0 (fun _ => none) S T := by
  have h0 := hbel.size
  have b1 : Below w.heap.size w (w.alloc (.cells #[.int .i64 9, .slice none 0 0] 31)) := (Below.refl _ _).alloc (Nat.le_refl _) _
  have hA : (w.alloc (.cells #[.int .i64 9, .slice none 0 0] 31)).heap[w.heap.size]? = some (.cells #[.int .i64 9, .slice none 0 0] 31 (0, 0)) := heap_alloc_at
  have s1 : (w.alloc (.cells #[.int .i64 9, .slice none 0 0] 31)).heap.size = w.heap.size + 1 := by simp
  generalize w.alloc (.cells #[.int .i64 9, .slice none 0 0] 31) = w1 at *
  have b2 : Below w1.heap.size w1 (w1.alloc (.cells #[.int .i64 0, .int .u64 0, .int .u64 0, .slice none 0 0, .slice none 0 0, .pointer (some ⟨w.heap.size, 0, none⟩)] 36)) := (Below.refl _ _).alloc (Nat.le_refl _) _
  have hA2 : (w1.alloc (.cells #[.int .i64 0, .int .u64 0, .int .u64 0, .slice none 0 0, .slice none 0 0, .pointer (some ⟨w.heap.size, 0, none⟩)] 36)).heap[w.heap.size]? = some (.cells #[.int .i64 9, .slice none 0 0] 31 (0, 0)) := heap_alloc_of hA
  have hB2 : (w1.alloc (.cells #[.int .i64 0, .int .u64 0, .int .u64 0, .slice none 0 0, .slice none 0 0, .pointer (some ⟨w.heap.size, 0, none⟩)] 36)).heap[w.heap.size + 1]? = some (.cells #[.int .i64 0, .int .u64 0, .int .u64 0, .slice none 0 0, .slice none 0 0, .pointer (some ⟨w.heap.size, 0, none⟩)] 36 (0, 0)) := by rw [← s1]; exact heap_alloc_at
  have s2 : (w1.alloc (.cells #[.int .i64 0, .int .u64 0, .int .u64 0, .slice none 0 0, .slice none 0 0, .pointer (some ⟨w.heap.size, 0, none⟩)] 36)).heap.size = w.heap.size + 2 := by simp [s1]
  generalize w1.alloc (.cells #[.int .i64 0, .int .u64 0, .int .u64 0, .slice none 0 0, .slice none 0 0, .pointer (some ⟨w.heap.size, 0, none⟩)] 36) = w2 at *
  have b3 : Below w2.heap.size w2 (w2.alloc (.map #[] 0)) := (Below.refl _ _).alloc (Nat.le_refl _) _
  have hb12 : Below w.heap.size w w2 := b1.trans (b2.mono (by omega))
  have hR : RAt w2 (w.heap.size + 1) w.heap.size 0 0 0 (.slice none 0 0) [] (.slice none 0 0) [] 9 (.slice none 0 0) [] := ⟨hB2, hA2, LOut.nil (Nat.zero_le _), LOut.nil (Nat.zero_le _), LOut.nil (Nat.zero_le _), by omega, fun r hr => (by cases hr), fun r hr => (by cases hr), fun r hr => (by cases hr)⟩
  have hH := (h2.below hb12).below b3
  have f2 : ∀ x, foot b m lb (.slice none 0 0) x → x < w.heap.size ∧ w0.heap.size ≤ x := fun x hx => ⟨h2.foot_lt x hx, by
    rcases hx with rfl | rfl | rfl | hx
    · exact hb
    · exact hm
    · exact hl
    · cases hx⟩
  have f3 : ∀ x, rfoot (w.heap.size + 1) w.heap.size (.slice none 0 0) (.slice none 0 0) (.slice none 0 0) x → x = w.heap.size + 1 ∨ x = w.heap.size := fun x hx => by
    rcases hx with hx | hx | hx | hx | hx
    · exact .inl hx
    · exact .inr hx
    · cases hx
    · cases hx
    · cases hx
  refine ⟨foot b m lb (.slice none 0 0), rfoot (w.heap.size + 1) w.heap.size (.slice none 0 0) (.slice none 0 0) (.slice none 0 0), ⟨⟨m, lb, 0, [], 0, .slice none 0 0, [], 9, 0, hH, rfl, Nat.le_refl _, Nat.le_refl _⟩, ⟨_, _, _, _, _, _, _, _, _, _, _, hR.below b3, fun x => Iff.rfl, Nat.le_refl _, Nat.le_refl _, Nat.le_refl _⟩, fun x hx hy => ?_⟩, ?_, fun e => ?_, fun e => ?_, by omega, fun x hx => ?_, (hbel.trans (hb12.mono h0)).trans (b3.mono (by omega))⟩
  · have h1 := (f2 x hx).1
    rcases f3 x hy with e | e <;> omega
  · rw [← s2]; exact CMap.new
  · have h1 := (f2 _ e).1
    omega
  · rcases f3 _ e with e | e <;> omega
  · rcases hx with e | e
    · exact (f2 x e).2
    · rcases f3 _ e with e | e <;> omega
end

/-- The call's box and the file's: what is noted next. -/
def noted (C : Fi → Bool) (kd ph bo bo' : Int) (f : Fi) (nx : Option Fi) : Fi → Bool :=
  if kd = 3 ∧ ph = 1 then setC C f else if kd = 11 then (match nx with | some x => setC C x | none => C) else if kd = 2 ∧ bo' ≠ bo then fun _ => false else C
/-- Claimed files are noted. -/
def Inv (ph : Int) (G : Gs) (C : Fi → Bool) : Prop := ph = 1 → ∀ f o, G f = some o → o.cl = true → C f = true
theorem setC_mono {C : Fi → Bool} {f x : Fi} (h : C x = true) : setC C f x = true := by
  unfold setC
  split
  · rfl
  · exact h
theorem setC_self {C : Fi → Bool} {f : Fi} : setC C f f = true := by
  unfold setC
  rw [if_pos rfl]
theorem noted_mono {C : Fi → Bool} {kd ph bo bo' : Int} {f : Fi} {nx : Option Fi} {x : Fi} (hb : bo' = bo) (h : C x = true) : noted C kd ph bo bo' f nx x = true := by
  unfold noted
  split
  · exact setC_mono h
  · split
    · cases nx with
      | none => exact h
      | some y => exact setC_mono h
    · split
      · rename_i e
        exact absurd hb e.2
      · exact h
theorem Inv.turn {C : Fi → Bool} {kd ph bo ph' bo' : Int} {G G' : Gs} {f : Fi} {nx : Option Fi} (h : Inv ph G C) (ht : Tm (fun x => (kd = 3 ∧ x = f) ∨ (kd = 11 ∧ nx = some x)) (kd = 2) ph bo G ph' bo' G') : Inv ph' G' (noted C kd ph bo bo' f nx) := fun e x o' hx hc => by
  rcases ht.back e with ⟨h1, h2, h3⟩ | ⟨h1, h2, h3⟩
  · rcases h3 x o' hx hc with ⟨o, k1, k2⟩ | ⟨k1, rfl⟩ | ⟨k1, k2⟩
    · exact noted_mono h2 (h h1 x o k1 k2)
    · unfold noted
      rw [if_pos ⟨k1, h1⟩]
      exact setC_self
    · subst k2
      unfold noted
      rw [if_neg (by omega), if_pos k1]
      exact setC_self
  · have := h3 x o' hx
    rw [hc] at this
    cases this
theorem Inv.met {C : Fi → Bool} {kd ph bo ph' bo' : Int} {G G' : Gs} {f : Fi} {nx : Option Fi} {A : Fi → Prop} {B : Prop} (h : Inv ph G C) (ht : Tm A B ph bo G ph' bo' G') {FL : List Fi} (hF : Fils G' FL) (h1 : ph = 1) (h2 : ph' = 2) : ∀ x ∈ FL, noted C kd ph bo bo' f nx x = true := fun x hx => by
  obtain ⟨rfl, e2, e3⟩ := ht.into h1 h2
  obtain ⟨o, ho⟩ := Option.ne_none_iff_exists'.1 ((hF.2 x).1 hx)
  exact noted_mono e2 (h h1 x o ho (e3 x o ho))
end Go.Proofs.Ythckjciblngaaaa
