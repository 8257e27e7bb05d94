/- Both sides of a call: what the program believes (exactly), what the document holds (that it is whole). -/
import Derived.Test.YthckjciblngaaaaHi
import Derived.Test.YthckjciblngaaaaHf
import Derived.Test.YthckjciblngaaaaSh
namespace Go.Proofs.Ythckjciblngaaaa
open Go.RowKit Go.Tn Go.Maps Go.Sort Go.Shelf

/-- What the program believes, whatever the rest: its blocks are S, its lists have n elements at most. -/
def HS (w : World) (b : Nat) (S : Nat → Prop) (ph bo : Int) (G : Gs) (n : Nat) : Prop := ∃ m lb se L clk wv W t u, HAt w b m lb ph se bo L clk G wv W t u ∧ S = foot b m lb wv ∧ L.length ≤ n ∧ W.length ≤ n
theorem HS.lt {w : World} {b n : Nat} {S : Nat → Prop} {ph bo : Int} {G : Gs} (h : HS w b S ph bo G n) : ∀ x, S x → x < w.heap.size := fun x hx => by
  obtain ⟨m, lb, se, L, clk, wv, W, t, u, h1, rfl, _⟩ := h
  exact h1.foot_lt x hx
theorem HS.mod {w w' : World} {b n : Nat} {S S' : Nat → Prop} {ph bo : Int} {G : Gs} (h : HS w b S ph bo G n) (hm : Mod S' w w') (hS : ∀ x, S x → ¬ S' x) : HS w' b S ph bo G n := by
  obtain ⟨m, lb, se, L, clk, wv, W, t, u, h1, rfl, h3⟩ := h
  exact ⟨m, lb, se, L, clk, wv, W, t, u, h1.mod hm hS, rfl, h3⟩
theorem HS.below {w w' : World} {b n : Nat} {S : Nat → Prop} {ph bo : Int} {G : Gs} (h : HS w b S ph bo G n) (hb : Below w.heap.size w w') : HS w' b S ph bo G n :=
  h.mod (Mod.of_below hb) fun x hx hh => absurd (h.lt x hx) (Nat.not_lt.2 hh)
theorem HS.mono {w : World} {b n n' : Nat} {S : Nat → Prop} {ph bo : Int} {G : Gs} (h : HS w b S ph bo G n) (hn : n ≤ n') : HS w b S ph bo G n' := by
  obtain ⟨m, lb, se, L, clk, wv, W, t, u, h1, h2, h3, h4⟩ := h
  exact ⟨m, lb, se, L, clk, wv, W, t, u, h1, h2, by omega, by omega⟩
/-- Its files, in order. -/
def Fils (G : Gs) (FL : List Fi) : Prop := Srt FL ∧ ∀ f, f ∈ FL ↔ G f ≠ none
theorem HS.fl {w : World} {b n : Nat} {S : Nat → Prop} {ph bo : Int} {G : Gs} (h : HS w b S ph bo G n) : ∃ FL, Fils G FL ∧ FL.length ≤ n := by
  obtain ⟨m, lb, se, L, clk, wv, W, t, u, h1, _, h3, _⟩ := h
  obtain ⟨k1, k2, k3⟩ := sortF_srt h1.wf (List.Perm.refl _)
  refine ⟨_, ⟨k1, fun f => ?_⟩, by rw [k3]; exact h3⟩
  rw [k2 f, h1.get]
  cases G f <;> simp
/-- How what is believed may turn: A: which files may be claimed; B: whether all may be unclaimed. -/
structure Tm (A : Fi → Prop) (B : Prop) (ph bo : Int) (G : Gs) (ph' bo' : Int) (G' : Gs) : Prop where
  back : ph' = 1 → (ph = 1 ∧ bo' = bo ∧ ∀ f o', G' f = some o' → o'.cl = true → (∃ o, G f = some o ∧ o.cl = true) ∨ A f) ∨ (B ∧ bo' ≠ bo ∧ ∀ f o', G' f = some o' → o'.cl = false)
  into : ph = 1 → ph' = 2 → G' = G ∧ bo' = bo ∧ ∀ f o, G f = some o → o.cl = true
theorem Tm.refl (A : Fi → Prop) (B : Prop) (ph bo : Int) (G : Gs) : Tm A B ph bo G ph bo G :=
  ⟨fun h => .inl ⟨h, rfl, fun f o' h1 h2 => .inl ⟨o', h1, h2⟩⟩, fun h1 h2 => by omega⟩
theorem Tm.less {A : Fi → Prop} {B : Prop} {ph bo : Int} {G G' : Gs} (h : ∀ f o', G' f = some o' → o'.cl = true → (∃ o, G f = some o ∧ o.cl = true) ∨ A f) : Tm A B ph bo G ph bo G' :=
  ⟨fun h1 => .inl ⟨h1, rfl, h⟩, fun h1 h2 => by omega⟩
/-- Behind a call of the program's. -/
def PDone (A : Fi → Prop) (B : Prop) (w : World) (b n : Nat) (S : Nat → Prop) (ph bo : Int) (G : Gs) (w' : World) : Prop := ∃ ph' bo' G' S', HS w' b S' ph' bo' G' n ∧ Step w w' S S' ∧ Tm A B ph bo G ph' bo' G'
section
variable {w : World} {b m lb : Nat} {ph se bo : Int} {L : Ents Fi} {clk : Nat} {G : Gs} {wv : Value} {W : List Fi} {t u : Nat} {A : Fi → Prop} {B : Prop} {n : Nat}
theorem HAt.done {w' : World} {ph' se' bo' : Int} {L' : Ents Fi} {clk' : Nat} {G' : Gs} {wv' : Value} {W' : List Fi} {t' u' : Nat} (h' : HAt w' b m lb ph' se' bo' L' clk' G' wv' W' t' u') (hm : Mod (foot b m lb wv) w w') (ho : ∀ r, wv'.ownBlock = some r → wv.ownBlock = some r ∨ w.heap.size ≤ r) (h1 : L'.length ≤ n) (h2 : W'.length ≤ n) (ht : Tm A B ph bo G ph' bo' G') : PDone A B w b n (foot b m lb wv) ph bo G w' :=
  ⟨ph', bo', G', _, ⟨m, lb, se', L', clk', wv', W', t', u', h', rfl, h1, h2⟩, ⟨hm, fun x hx => by
    rcases hx with hx | hx | hx | hx
    · exact .inl (.inl hx)
    · exact .inl (.inr (.inl hx))
    · exact .inl (.inr (.inr (.inl hx)))
    · rcases ho x hx with e | e
      · exact .inl (.inr (.inr (.inr e)))
      · exact .inr e⟩, ht⟩
theorem HAt.stay {w' : World} (h : HAt w b m lb ph se bo L clk G wv W t u) (hb : Below w.heap.size w w') (h1 : L.length ≤ n) (h2 : W.length ≤ n) : PDone A B w b n (foot b m lb wv) ph bo G w' :=
  (h.below hb).done (mB hb) (fun r hr => .inl hr) h1 h2 (Tm.refl ..)
theorem mm {a c : World} (h : Mod (fun x => x = m) a c) : Mod (foot b m lb wv) a c := h.mono fun x _ e => .inr (.inl e)
theorem mb {a c : World} (h : Mod (fun x => x = b) a c) : Mod (foot b m lb wv) a c := h.mono fun x _ e => .inl e
theorem put_cl {f : Fi} {o : One} {x : Fi} {o' : One} (h : putG G f (some o) x = some o') : (x = f ∧ o' = o) ∨ (x ≠ f ∧ G x = some o') := by
  unfold putG at h
  split at h
  · rename_i e
    exact .inl ⟨e, (Option.some.inj h).symm⟩
  · rename_i e
    exact .inr ⟨e, h⟩
theorem del_cl {f : Fi} {x : Fi} {o' : One} (h : putG G f none x = some o') : G x = some o' := by
  unfold putG at h
  split at h
  · cases h
  · exact h
end
theorem isSome_of {G : Gs} {f : Fi} (h : ¬ G f = none) : (G f).isSome = true := by
  cases hG : G f with
  | none => exact absurd hG h
  | some o => rfl

section
variable {w : World} {b n : Nat} {S : Nat → Prop} {ph bo : Int} {G : Gs} {A : Fi → Prop} {B : Prop}
theorem p_lose (h : HS w b S ph bo G n) (hn : n ≤ 500) (v : Int) : Calls Try.prog 17 #[.pointer (some ⟨b, 0, none⟩), .int .u64 v] w fun e w' => (∃ u FL, e = .returned u ∧ LRd enF 2 w.heap.size w' u FL) ∧ PDone A B w b (n + 1) S ph bo G w' := by
  obtain ⟨m, lb, se, L, clk, wv, W, t, u, h1, rfl, h3, h4⟩ := h
  refine (lose_any h1 (by omega) v).mono ?_
  rintro e w' ⟨⟨u', FL, rfl, _, hR⟩, hA, hm⟩
  exact ⟨⟨u', FL, rfl, hR⟩, hA.done (hm.mono fun x _ e => by rcases e with e | e | e; exact .inl e; exact .inr (.inl e); exact .inr (.inr (.inl e))) (fun r hr => by cases hr) (Nat.zero_le _) (Nat.zero_le _) ⟨fun e => by omega, fun _ e => by omega⟩⟩
theorem p_open (h : HS w b S ph bo G n) (v : Int) : Calls Try.prog 19 #[.pointer (some ⟨b, 0, none⟩), .int .u64 v] w fun e w' => SomeInt e ∧ PDone A B w b (n + 1) S ph bo G w' := by
  obtain ⟨m, lb, se, L, clk, wv, W, t, u, h1, rfl, h3, h4⟩ := h
  by_cases hp : ph ≠ 0 ∨ se = 0
  · refine (open_no h1 v hp).mono ?_
    rintro e w' ⟨rfl, rfl⟩
    exact ⟨⟨_, rfl⟩, h1.stay (Below.refl _ _) (by omega) (by omega)⟩
  · obtain rfl : ph = 0 := by omega
    refine (open_yes h1 v (by omega)).mono ?_
    rintro e w' ⟨rfl, hA, hm⟩
    exact ⟨⟨_, rfl⟩, hA.done (mb hm) (fun r hr => .inl hr) (by omega) (by omega) ⟨fun e => by omega, fun e => by omega⟩⟩
theorem p_reboot (h : HS w b S ph bo G n) (hB : B) (v : Int) : Calls Try.prog 20 #[.pointer (some ⟨b, 0, none⟩), .int .u64 v] w fun e w' => SomeInt e ∧ PDone A B w b (n + 1) S ph bo G w' := by
  obtain ⟨m, lb, se, L, clk, wv, W, t, u, h1, rfl, h3, h4⟩ := h
  by_cases hp : ph = 0 ∨ v ≤ bo
  · refine (reboot_no h1 v hp).mono ?_
    rintro e w' ⟨rfl, rfl⟩
    exact ⟨⟨_, rfl⟩, h1.stay (Below.refl _ _) (by omega) (by omega)⟩
  · refine (reboot_yes h1 v (by omega) (by omega)).mono ?_
    rintro e w' ⟨rfl, ⟨L', clk', hA, hl⟩, hm⟩
    refine ⟨⟨_, rfl⟩, hA.done (hm.mono fun x _ e => by rcases e with e | e; exact .inl e; exact .inr (.inl e)) (fun r hr => by cases hr) (by omega) (Nat.zero_le _) ⟨fun _ => .inr ⟨hB, by omega, fun f o' ho => ?_⟩, fun _ e => by omega⟩⟩
    unfold unG at ho
    cases hG : G f with
    | none => rw [hG] at ho; cases ho
    | some o => rw [hG] at ho; cases ho; rfl
theorem p_claimed (h : HS w b S ph bo G n) (i g v : Int) (hA' : A (i, g)) : Calls Try.prog 21 #[.pointer (some ⟨b, 0, none⟩), .agg #[.int .i64 i, .int .i64 g], .int .u64 v] w fun e w' => SomeInt e ∧ PDone A B w b (n + 1) S ph bo G w' := by
  obtain ⟨m, lb, se, L, clk, wv, W, t, u, h1, rfl, h3, h4⟩ := h
  by_cases hp : ph ≠ 1 ∨ G (i, g) = none
  · refine (claimed_no h1 i g v hp).mono ?_
    rintro e w' ⟨⟨c, _, rfl⟩, hb⟩
    exact ⟨⟨_, rfl⟩, h1.stay hb (by omega) (by omega)⟩
  · have hp2 : ph = 1 ∧ ¬ G (i, g) = none := by
      constructor
      · exact Decidable.byContradiction fun e => hp (.inl e)
      · exact fun e => hp (.inr e)
    obtain ⟨rfl, hG⟩ := hp2
    refine (claimed_yes h1 i g v (isSome_of hG)).mono ?_
    rintro e w' ⟨rfl, ⟨L', clk', hA, hl⟩, hm⟩
    refine ⟨⟨_, rfl⟩, hA.done (mm hm) (fun r hr => .inl hr) (by omega) (by omega) (Tm.less fun f o' ho hc => ?_)⟩
    rcases put_cl ho with ⟨rfl, _⟩ | ⟨_, e⟩
    · exact .inr hA'
    · exact .inl ⟨o', e, hc⟩
theorem p_unclaimed (h : HS w b S ph bo G n) (i g : Int) : Calls Try.prog 22 #[.pointer (some ⟨b, 0, none⟩), .agg #[.int .i64 i, .int .i64 g]] w fun e w' => SomeInt e ∧ PDone A B w b (n + 1) S ph bo G w' := by
  obtain ⟨m, lb, se, L, clk, wv, W, t, u, h1, rfl, h3, h4⟩ := h
  by_cases hp : ph ≠ 1 ∨ G (i, g) = none
  · refine (unclaimed_no h1 i g hp).mono ?_
    rintro e w' ⟨⟨c, _, rfl⟩, hb⟩
    exact ⟨⟨_, rfl⟩, h1.stay hb (by omega) (by omega)⟩
  · have hp2 : ph = 1 ∧ ¬ G (i, g) = none := by
      constructor
      · exact Decidable.byContradiction fun e => hp (.inl e)
      · exact fun e => hp (.inr e)
    obtain ⟨rfl, hG⟩ := hp2
    refine (unclaimed_yes h1 i g (isSome_of hG)).mono ?_
    rintro e w' ⟨rfl, ⟨L', clk', hA, hl⟩, hm⟩
    exact ⟨⟨_, rfl⟩, hA.done (mm hm) (fun r hr => .inl hr) (by omega) (by omega) (Tm.less fun f o' ho hc => .inl ⟨o', del_cl ho, hc⟩)⟩
theorem p_settled (h : HS w b S ph bo G n) (hn : n ≤ 500) : Calls Try.prog 23 #[.pointer (some ⟨b, 0, none⟩)] w fun e w' => SomeInt e ∧ PDone A B w b (n + 1) S ph bo G w' := by
  obtain ⟨FL, hFL, _⟩ := h.fl
  obtain ⟨m, lb, se, L, clk, wv, W, t, u, h1, rfl, h3, h4⟩ := h
  by_cases hp : ph = 1
  · subst hp
    by_cases hc : claimR G FL = none
    · refine (settled_yes h1 (by omega) FL hFL hc).mono ?_
      rintro e w' ⟨rfl, hA, hm⟩
      refine ⟨⟨_, rfl⟩, hA.done (mb hm) (fun r hr => .inl hr) (by omega) (by omega) ⟨fun e => by omega, fun _ _ => ⟨rfl, rfl, fun f o hf => ?_⟩⟩⟩
      have := List.find?_eq_none.1 hc f ((hFL.2 f).2 (by rw [hf]; simp))
      rw [hf] at this
      simpa using this
    · refine (settled_more h1 (by omega) FL hFL hc).mono ?_
      rintro e w' ⟨rfl, hb⟩
      exact ⟨⟨_, rfl⟩, h1.stay hb (by omega) (by omega)⟩
  · refine (settled_no h1 hp).mono ?_
    rintro e w' ⟨rfl, rfl⟩
    exact ⟨⟨_, rfl⟩, h1.stay (Below.refl _ _) (by omega) (by omega)⟩
theorem p_grant (h : HS w b S ph bo G n) (i g md v : Int) : Calls Try.prog 24 #[.pointer (some ⟨b, 0, none⟩), .agg #[.int .i64 i, .int .i64 g], .int .i64 md, .int .u64 v] w fun e w' => SomeInt e ∧ PDone A B w b (n + 1) S ph bo G w' := by
  obtain ⟨m, lb, se, L, clk, wv, W, t, u, h1, rfl, h3, h4⟩ := h
  by_cases hp : ph = 2
  · subst hp
    by_cases hm : md = 1 ∨ md = 2
    · refine (grant_yes h1 i g md v hm).mono ?_
      rintro e w' ⟨rfl, ⟨L', clk', hA, hl⟩, hm⟩
      exact ⟨⟨_, rfl⟩, hA.done (mm hm) (fun r hr => .inl hr) (by omega) (by omega) ⟨fun e => by omega, fun e => by omega⟩⟩
    · refine (grant_kind h1 i g md v (by omega)).mono ?_
      rintro e w' ⟨rfl, hb⟩
      exact ⟨⟨_, rfl⟩, h1.stay hb (by omega) (by omega)⟩
  · refine (grant_no h1 i g md v hp).mono ?_
    rintro e w' ⟨rfl, hb⟩
    exact ⟨⟨_, rfl⟩, h1.stay hb (by omega) (by omega)⟩
theorem p_give (h : HS w b S ph bo G n) (i g : Int) : Calls Try.prog 25 #[.pointer (some ⟨b, 0, none⟩), .agg #[.int .i64 i, .int .i64 g]] w fun e w' => SomeInt e ∧ PDone A B w b (n + 1) S ph bo G w' := by
  obtain ⟨m, lb, se, L, clk, wv, W, t, u, h1, rfl, h3, h4⟩ := h
  refine (give_any h1 i g).mono ?_
  rintro e w' ⟨rfl, ⟨wv', ⟨L', clk', hA, hl⟩, ho⟩, hm⟩
  refine ⟨⟨_, rfl⟩, hA.done (hm.mono fun x _ e => by rcases e with e | e | e; exact .inl e; exact .inr (.inl e); exact .inr (.inr (.inr e))) (fun r hr => .inl (ho r hr)) (by omega) (Nat.le_trans (List.length_filter_le _ _) (by omega)) (Tm.less fun f o' hf hc => .inl ⟨o', ?_, hc⟩)⟩
  unfold giveG at hf
  split at hf
  · exact del_cl hf
  · exact hf
theorem p_update (h : HS w b S ph bo G n) (i g v : Int) : Calls Try.prog 26 #[.pointer (some ⟨b, 0, none⟩), .agg #[.int .i64 i, .int .i64 g], .int .u64 v] w fun e w' => SomeInt e ∧ PDone A B w b (n + 1) S ph bo G w' := by
  obtain ⟨m, lb, se, L, clk, wv, W, t, u, h1, rfl, h3, h4⟩ := h
  refine (update_any h1 i g v).mono ?_
  rintro e w' ⟨rfl, ⟨L', clk', hA, hl⟩, hm⟩
  refine ⟨⟨_, rfl⟩, hA.done (mm hm) (fun r hr => .inl hr) (by omega) (by omega) (Tm.less fun f o' hf hc => .inl ?_)⟩
  split at hf
  · rename_i hs
    rcases put_cl hf with ⟨rfl, rfl⟩ | ⟨_, e⟩
    · cases hG : G (i, g) with
      | none => rw [hG] at hs; cases hs
      | some o => exact ⟨o, rfl, by rw [hG] at hc; exact hc⟩
    · exact ⟨o', e, hc⟩
  · exact ⟨o', hf, hc⟩
theorem p_want (h : HS w b S ph bo G n) (hn : n ≤ 500) (i g : Int) : Calls Try.prog 27 #[.pointer (some ⟨b, 0, none⟩), .agg #[.int .i64 i, .int .i64 g]] w fun e w' => SomeInt e ∧ PDone A B w b (n + 1) S ph bo G w' := by
  obtain ⟨m, lb, se, L, clk, wv, W, t, u, h1, rfl, h3, h4⟩ := h
  by_cases hp : ph = 2
  · subst hp
    refine (want_in h1 (by omega) i g).mono ?_
    rintro e w' ⟨rfl, ⟨wv', hA, ho⟩, hm⟩
    refine ⟨⟨_, rfl⟩, hA.done (hm.mono fun x _ e => by rcases e with e | e; exact .inl e; exact .inr (.inr (.inr e))) ho (by omega) ?_ (Tm.refl ..)⟩
    split
    · omega
    · rw [List.length_append]; simp; omega
  · refine (want_out h1 hp i g).mono ?_
    rintro e w' ⟨rfl, hb⟩
    exact ⟨⟨_, rfl⟩, h1.stay hb (by omega) (by omega)⟩
theorem p_ack (h : HS w b S ph bo G n) (v : Int) (hv : 0 ≤ v) : Calls Try.prog 28 #[.pointer (some ⟨b, 0, none⟩), .int .u64 v] w fun e w' => SomeInt e ∧ PDone A B w b (n + 1) S ph bo G w' := by
  obtain ⟨m, lb, se, L, clk, wv, W, t, u, h1, rfl, h3, h4⟩ := h
  refine (hack_any h1 v hv).mono ?_
  rintro e w' ⟨⟨c, rfl⟩, ⟨u', hA⟩, hm⟩
  exact ⟨⟨_, rfl⟩, hA.done (hm.mono fun x _ e => .inr (.inr (.inl e))) (fun r hr => .inl hr) (by omega) (by omega) (Tm.refl ..)⟩
theorem p_claim (h : HS w b S ph bo G n) (hn : n ≤ 500) {FL : List Fi} (hFL : Fils G FL) : Calls Try.prog 8 #[.pointer (some ⟨b, 0, none⟩)] w fun e w' => e = .returned (if ph = 1 then claimV G FL else noClaim) ∧ Below w.heap.size w w' := by
  obtain ⟨m, lb, se, L, clk, wv, W, t, u, h1, rfl, h3, h4⟩ := h
  by_cases hp : ph = 1
  · subst hp
    rw [if_pos rfl]
    exact claim_any h1 (by omega) FL hFL
  · rw [if_neg hp]
    exact claim_out h1 hp
end
end Go.Proofs.Ythckjciblngaaaa
