/- The plain law of delegations: what grants and drops make of a file's modes. -/
import Derived.Test.YtnjiocikpigegaaLv
namespace Go.Proofs.Ytnjiocikpigegaa
open Go.RowKit Go.Tn Go.Tn.Mo Go.Maps Go.Sort Go.Shelf

theorem holdL_mem {m c : Nat} : c ∈ holdL m 8 ↔ c < 8 ∧ mo m c ≠ 0 := by
  unfold holdL
  rw [List.mem_filter, List.mem_range, decide_eq_true_iff]
theorem otherL_mem {m : Nat} {client mode : Int} {c : Nat} : c ∈ otherL m client mode ↔ c < 8 ∧ mo m c ≠ 0 ∧ (c : Int) ≠ client ∧ (mode = 2 ∨ mo m c = 2) := by
  unfold otherL inWay
  rw [List.mem_filter, holdL_mem, Bool.and_eq_true, Bool.or_eq_true]
  simp only [decide_eq_true_iff]
  exact ⟨fun ⟨⟨a, b⟩, c, d⟩ => ⟨a, b, c, d⟩, fun ⟨a, b, c, d⟩ => ⟨⟨a, b⟩, c, d⟩⟩
theorem otherL_nil {m : Nat} {client mode : Int} : otherL m client mode = [] ↔ ∀ c : Nat, c < 8 → (c : Int) ≠ client → mo m c ≠ 0 → ¬ (mode = 2 ∨ mo m c = 2) := by
  rw [List.eq_nil_iff_forall_not_mem]
  exact ⟨fun h c h1 h2 h3 h4 => h c (otherL_mem.2 ⟨h1, h3, h2, h4⟩), fun h c hc => by
    obtain ⟨h1, h2, h3, h4⟩ := otherL_mem.1 hc
    exact h c h1 h3 h2 h4⟩
theorem holdL_nodup (m : Nat) : (holdL m 8).Nodup := (List.nodup_range).filter _
theorem otherL_nodup (m : Nat) (client mode : Int) : (otherL m client mode).Nodup := (holdL_nodup m).filter _

/-- What Grant answers, and makes. -/
def grantE (m : Nat) (c md : Int) : Int := if c < 0 ∨ 8 ≤ c ∨ (md ≠ 1 ∧ md ≠ 2) then 2 else if otherL m c md ≠ [] then 21 else 0
def grantV (m : Nat) (c md : Int) : Nat := wi m c.toNat (max md.toNat (mo m c.toNat))
def grantM (M : Fi → Nat) (f : Fi) (c md : Int) : Fi → Nat := if grantE (M f) c md = 0 then setM M f (grantV (M f) c md) else M
theorem grantE_ok {m : Nat} {c md : Int} (h : grantE m c md = 0) : ∃ c' d' : Nat, c = c' ∧ md = d' ∧ c' < 8 ∧ (d' = 1 ∨ d' = 2) ∧ otherL m c md = [] := by
  unfold grantE at h
  by_cases h1 : c < 0 ∨ 8 ≤ c ∨ (md ≠ 1 ∧ md ≠ 2)
  · rw [if_pos h1] at h; cases h
  · rw [if_neg h1] at h
    by_cases h2 : otherL m c md ≠ []
    · rw [if_pos h2] at h; cases h
    · exact ⟨c.toNat, md.toNat, by omega, by omega, by omega, by omega, Decidable.not_not.1 h2⟩
theorem grant_any (w : World) (b m clk : Nat) (L : Ents Fi) (M : Fi → Nat) (h : TabAt w b m L clk M) (i g client mode : Int) : Calls Try.prog 9 #[.pointer (some ⟨b, 0, none⟩), .agg #[.int .i64 i, .int .i64 g], .int .i64 client, .int .i64 mode] w
    fun e w' => e = .returned (.int .i64 (grantE (M (i, g)) client mode)) ∧ (∃ L' clk', TabAt w' b m L' clk' (grantM M (i, g) client mode)) ∧ Mod (fun x => x = m) w w' := by
  have hsame : ∀ w', Below w.heap.size w w' → (∃ L' clk', TabAt w' b m L' clk' M) ∧ Mod (fun x => x = m) w w' := fun w' hb =>
    ⟨⟨L, clk, h.below hb h.b_lt h.m_lt⟩, (Mod.of_below hb).mono fun x hx hh => absurd hx (Nat.not_lt.2 hh)⟩
  unfold grantM
  by_cases h1 : client < 0 ∨ 8 ≤ client ∨ (mode ≠ 1 ∧ mode ≠ 2)
  · have he : grantE (M (i, g)) client mode = 2 := by unfold grantE; rw [if_pos h1]
    rw [he, if_neg (by decide)]
    refine (grant_arg w b m clk L M h i g client mode h1).mono ?_
    rintro e w' ⟨he, hb⟩
    exact ⟨he, hsame w' hb⟩
  · obtain ⟨c, rfl⟩ : ∃ c : Nat, client = (c : Int) := ⟨client.toNat, by omega⟩
    obtain ⟨d, rfl⟩ : ∃ d : Nat, mode = (d : Int) := ⟨mode.toNat, by omega⟩
    have hc8 : c < 8 := by omega
    have hd : d = 1 ∨ d = 2 := by omega
    by_cases h2 : otherL (M (i, g)) c d ≠ []
    · have he : grantE (M (i, g)) c d = 21 := by unfold grantE; rw [if_neg h1, if_pos h2]
      rw [he, if_neg (by decide)]
      refine (grant_busy w b m clk L M h i g c d hc8 hd h2).mono ?_
      rintro e w' ⟨he, hb⟩
      exact ⟨he, hsame w' hb⟩
    · have he : grantE (M (i, g)) c d = 0 := by unfold grantE; rw [if_neg h1, if_neg h2]
      rw [he, if_pos rfl]
      exact grant_ok w b m clk L M h i g c d hc8 hd (Decidable.not_not.1 h2)

/-- One writer, or readers alone. -/
def Single (M : Fi → Nat) : Prop := ∀ f c c', c < 8 → c' < 8 → c ≠ c' → mo (M f) c = 2 → mo (M f) c' = 0
theorem Single.none : Single fun _ => 0 := fun f c c' _ _ _ _ => by simp [mo]
theorem Single.grant {M : Fi → Nat} (h : Single M) (h2 : ∀ f c, c < 8 → mo (M f) c ≤ 2) (f : Fi) (c md : Int) : Single (grantM M f c md) := by
  unfold grantM
  split
  · rename_i he
    obtain ⟨x, d, rfl, rfl, hx, hd, ho⟩ := grantE_ok he
    rw [otherL_nil] at ho
    intro f' a a' ha ha' hne hm
    unfold setM at hm ⊢
    by_cases hf : f' = f
    · rw [if_pos hf] at hm ⊢
      unfold grantV at hm ⊢
      rw [Int.toNat_natCast, Int.toNat_natCast] at hm ⊢
      have hy := h2 f x hx
      rw [mo_wi _ hx ha (by omega)] at hm
      rw [mo_wi _ hx ha' (by omega)]
      by_cases hax : a = x
      · rw [if_pos hax] at hm
        rw [if_neg (fun e => hne (hax.trans e.symm))]
        by_cases hd2 : d = 2
        · refine Decidable.byContradiction fun hz => ho a' ha' ?_ hz (.inl (by omega))
          omega
        · exact h f x a' hx ha' (fun e => hne (hax.trans e)) (by omega)
      · rw [if_neg hax] at hm
        exfalso
        exact ho a ha (by omega) (by omega) (.inr hm)
    · rw [if_neg hf] at hm ⊢
      exact h f' a a' ha ha' hne hm
  · exact h
/-- Less is as single. -/
theorem Single.less {M M' : Fi → Nat} (h : Single M) (hl : ∀ f c, c < 8 → mo (M' f) c = mo (M f) c ∨ mo (M' f) c = 0) : Single M' := fun f c c' hc hc' hne hm => by
  rcases hl f c' hc' with h1 | h1
  · rcases hl f c hc with h2 | h2
    · rw [h1]; exact h f c c' hc hc' hne (by omega)
    · omega
  · exact h1
theorem less_wi (m c x : Nat) (hc : c < 8) (hx : x < 8) : mo (wi m x 0) c = mo m c ∨ mo (wi m x 0) c = 0 := by
  rw [mo_wi m hx hc (by decide)]
  split
  · exact .inr rfl
  · exact .inl rfl
theorem modeI_ne {m : Nat} {c : Int} (h : modeI m c ≠ 0) : ∃ x : Nat, c = x ∧ x < 8 ∧ mo m x ≠ 0 := by
  unfold modeI at h
  split at h
  · exact ⟨c.toNat, by omega, by omega, h⟩
  · exact absurd rfl h
theorem less_drop (M : Fi → Nat) (x : Fi) (cl : Int) : ∀ f c, c < 8 → mo (dropM M x cl f) c = mo (M f) c ∨ mo (dropM M x cl f) c = 0 := fun f c hc => by
  unfold dropM
  split
  · exact .inl rfl
  · rename_i hz
    obtain ⟨y, rfl, hy, _⟩ := modeI_ne hz
    unfold setM
    split
    · rename_i hf
      subst hf
      rw [Int.toNat_natCast]
      exact less_wi _ c y hc hy
    · exact .inl rfl
theorem less_dropC (M : Fi → Nat) (cl : Int) : ∀ f c, c < 8 → mo (dropCM M cl f) c = mo (M f) c ∨ mo (dropCM M cl f) c = 0 := fun f c hc => by
  unfold dropCM
  split
  · exact .inl rfl
  · rename_i hz
    obtain ⟨y, rfl, hy, _⟩ := modeI_ne hz
    rw [Int.toNat_natCast]
    exact less_wi _ c y hc hy
theorem less_dropF (M : Fi → Nat) (x : Fi) : ∀ f c, c < 8 → mo (setM M x 0 f) c = mo (M f) c ∨ mo (setM M x 0 f) c = 0 := fun f c hc => by
  unfold setM
  split
  · exact .inr (by simp [mo])
  · exact .inl rfl

/-! ### Which files there may be -/
def Among (M : Fi → Nat) (A : List Fi) : Prop := ∀ f, M f ≠ 0 → f ∈ A
theorem Among.none : Among (fun _ => 0) [] := fun f h => absurd rfl h
theorem Among.grant {M : Fi → Nat} {A : List Fi} (h : Among M A) (x : Fi) (c md : Int) : Among (grantM M x c md) (A ++ [x]) := fun f hf => by
  unfold grantM at hf
  split at hf
  · unfold setM at hf
    split at hf
    · rename_i he; simp [he]
    · exact List.mem_append_left _ (h f hf)
  · exact List.mem_append_left _ (h f hf)
theorem Among.less {M M' : Fi → Nat} {A : List Fi} (h : Among M A) (x : Fi) (hl : ∀ f, M' f ≠ 0 → M f ≠ 0) : Among M' (A ++ [x]) := fun f hf => List.mem_append_left _ (h f (hl f hf))
theorem zero_drop (M : Fi → Nat) (x : Fi) (cl : Int) (f : Fi) (h : dropM M x cl f ≠ 0) : M f ≠ 0 := fun h0 => by
  unfold dropM at h
  split at h
  · exact h h0
  · rename_i hz
    unfold setM at h
    split at h
    · rename_i hf
      subst hf
      rw [h0] at hz
      exact hz (modeI_zero _)
    · exact h h0
theorem zero_dropC (M : Fi → Nat) (cl : Int) (f : Fi) (h : dropCM M cl f ≠ 0) : M f ≠ 0 := fun h0 => by
  unfold dropCM at h
  rw [h0, modeI_zero, if_pos rfl] at h
  exact h rfl
theorem zero_dropF (M : Fi → Nat) (x : Fi) (f : Fi) (h : setM M x 0 f ≠ 0) : M f ≠ 0 := fun h0 => by
  unfold setM at h
  split at h
  · exact h rfl
  · exact h h0

/-! ### Behind all others' dropping -/
def dropAll : Nat → List Nat → Nat
  | m, [] => m
  | m, c :: cs => dropAll (wi m c 0) cs
theorem mo_dropAll : ∀ (cs : List Nat) (m : Nat), (∀ c ∈ cs, c < 8) → ∀ x, x < 8 → mo (dropAll m cs) x = if x ∈ cs then 0 else mo m x
  | [], m, _, x, _ => by simp [dropAll]
  | c :: cs, m, h, x, hx => by
    rw [dropAll, mo_dropAll cs _ (fun y hy => h y (by simp [hy])) x hx, mo_wi m (h c (by simp)) hx (by decide)]
    by_cases h1 : x ∈ cs
    · simp [h1]
    · by_cases h2 : x = c
      · simp [h2]
      · simp [h1, h2]
theorem dropAll_snoc : ∀ (cs : List Nat) (m c : Nat), dropAll m (cs ++ [c]) = wi (dropAll m cs) c 0
  | [], m, c => rfl
  | x :: cs, m, c => by rw [List.cons_append, dropAll, dropAll_snoc cs]; rfl
end Go.Proofs.Ytnjiocikpigegaa
