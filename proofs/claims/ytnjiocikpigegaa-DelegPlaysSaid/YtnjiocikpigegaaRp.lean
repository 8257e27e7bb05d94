/- The plain law of the document's rows. -/
import Derived.Test.YtnjiocikpigegaaRb
namespace Go.Proofs.Ytnjiocikpigegaa
open Go.RowKit Go.Tn Go.Tn.Mo Go.Maps Go.Sort Go.Shelf

abbrev fileR (r : RowR) : Fi := (r.i, r.g)
/-- The rows say just what the modes say. -/
structure RowsOk (M : Fi → Nat) (R : List RowR) : Prop where
  uniq : R.Pairwise fun a b => ¬ (fileR a = fileR b ∧ a.c = b.c)
  row : ∀ r ∈ R, ∃ x : Nat, x < 8 ∧ r.c = x ∧ r.m = (mo (M (fileR r)) x : Nat) ∧ mo (M (fileR r)) x ≠ 0
  all : ∀ f (x : Nat), x < 8 → mo (M f) x ≠ 0 → ∃ r ∈ R, fileR r = f ∧ r.c = x
theorem RowsOk.none : RowsOk (fun _ => 0) [] := ⟨.nil, fun r h => (by cases h), fun f x _ h => absurd (by simp [mo]) h⟩
theorem hit_file {f : Fi} {c : Int} {r : RowR} : hit f c r = true ↔ fileR r = f ∧ r.c = c := by
  rw [hit_iff]
  constructor
  · rintro ⟨h1, h2, h3⟩
    exact ⟨Prod.ext h1 h2, h3⟩
  · rintro ⟨rfl, h3⟩
    exact ⟨rfl, rfl, h3⟩
theorem RowsOk.alike {M : Fi → Nat} {R : List RowR} (h : RowsOk M R) : Alike M R := fun f c => by
  unfold rm
  cases hf : R.find? (hit f c) with
  | none =>
    have hn := List.find?_eq_none.1 hf
    show (0 : Int) = _
    by_cases hz : modeI (M f) c = 0
    · rw [hz]; rfl
    · obtain ⟨x, rfl, hx, hm⟩ := modeI_ne hz
      obtain ⟨r, hr, h1, h2⟩ := h.all f x hx hm
      exact absurd (hit_file.2 ⟨h1, h2⟩) (hn r hr)
  | some r =>
    have hr := List.mem_of_find?_eq_some hf
    obtain ⟨h1, h2⟩ := hit_file.1 (List.find?_some hf)
    obtain ⟨x, hx, hc, hm, _⟩ := h.row r hr
    show r.m = _
    rw [← h2, hc, modeI_nat _ hx, hm, h1]

theorem uniq_idx {R : List RowR} (h : R.Pairwise fun a b => ¬ (fileR a = fileR b ∧ a.c = b.c)) {i j : Nat} {a b : RowR} (hi : R[i]? = some a) (hj : R[j]? = some b) (hf : fileR a = fileR b) (hc : a.c = b.c) : i = j := by
  rcases Nat.lt_trichotomy i j with hlt | rfl | hgt
  · exact absurd ⟨hf, hc⟩ (pairwise_idx h hi hj hlt)
  · rfl
  · exact absurd ⟨hf.symm, hc.symm⟩ (pairwise_idx h hj hi hgt)

theorem mo_set {M : Fi → Nat} {f : Fi} {x y : Nat} (hx : x < 8) (hy : y < 3) (f' : Fi) {x' : Nat} (hx' : x' < 8) : mo (setM M f (wi (M f) x y) f') x' = if f' = f ∧ x' = x then y else mo (M f') x' := by
  unfold setM
  by_cases hf : f' = f
  · subst hf
    rw [if_pos rfl, mo_wi _ hx hx' hy]
    by_cases h : x' = x <;> simp [h]
  · simp [hf]

/-- A new row. -/
theorem RowsOk.add {M : Fi → Nat} {R : List RowR} (h : RowsOk M R) (f : Fi) {x d : Nat} (hx : x < 8) (hd : d = 1 ∨ d = 2) (h0 : mo (M f) x = 0) : RowsOk (setM M f (wi (M f) x d)) (R ++ [⟨f.1, f.2, x, d⟩]) := by
  have hno : ∀ r ∈ R, ¬ (fileR r = f ∧ r.c = x) := fun r hr ⟨h1, h2⟩ => by
    obtain ⟨y, hy, hc, hm, hz⟩ := h.row r hr
    have : y = x := by omega
    subst this
    rw [h1] at hz
    exact hz h0
  refine ⟨List.pairwise_append.2 ⟨h.uniq, by simp, fun a ha b hb hab => ?_⟩, fun r hr => ?_, fun f' x' hx' hm => ?_⟩
  · have hb' : b = ⟨f.1, f.2, x, d⟩ := by simpa using hb
    subst hb'
    exact hno a ha hab
  · rcases List.mem_append.1 hr with hr | hr
    · obtain ⟨y, hy, hc, hm, hz⟩ := h.row r hr
      refine ⟨y, hy, hc, ?_⟩
      rw [mo_set hx (by omega) _ hy, if_neg (fun hh => hno r hr ⟨hh.1, by omega⟩)]
      exact ⟨hm, hz⟩
    · have hr' : r = ⟨f.1, f.2, x, d⟩ := by simpa using hr
      subst hr'
      refine ⟨x, hx, rfl, ?_⟩
      rw [mo_set hx (by omega) _ hx, if_pos ⟨rfl, rfl⟩]
      exact ⟨rfl, by omega⟩
  · rw [mo_set hx (by omega) _ hx'] at hm
    by_cases hh : f' = f ∧ x' = x
    · obtain ⟨rfl, rfl⟩ := hh
      exact ⟨_, List.mem_append_right _ (List.mem_singleton.2 rfl), rfl, rfl⟩
    · rw [if_neg hh] at hm
      obtain ⟨r, hr, h1, h2⟩ := h.all f' x' hx' hm
      exact ⟨r, List.mem_append_left _ hr, h1, h2⟩
/-- A row that says more. -/
theorem RowsOk.rise {M : Fi → Nat} {R : List RowR} (h : RowsOk M R) {k : Nat} {r : RowR} (hk : R[k]? = some r) {x d : Nat} (hx : x < 8) (hc : r.c = x) (hd : d = 1 ∨ d = 2) : RowsOk (setM M (fileR r) (wi (M (fileR r)) x d)) (R.set k { r with m := d }) := by
  have hkl := (List.getElem?_eq_some_iff.1 hk).1
  have hget : ∀ (j : Nat) (s : RowR), (R.set k { r with m := (d : Int) })[j]? = some s → (j = k ∧ s = { r with m := (d : Int) }) ∨ (j ≠ k ∧ R[j]? = some s) := fun j s hs => by
    by_cases hjk : j = k
    · subst hjk
      rw [List.getElem?_set_self hkl] at hs
      exact .inl ⟨rfl, (Option.some.inj hs).symm⟩
    · rw [List.getElem?_set_ne (fun e => hjk e.symm)] at hs
      exact .inr ⟨hjk, hs⟩
  refine ⟨List.pairwise_iff_getElem.2 fun i j hi hj hij hh => ?_, fun s hs => ?_, fun f' x' hx' hm => ?_⟩
  · have e1 := List.getElem?_eq_getElem hi
    have e2 := List.getElem?_eq_getElem hj
    rcases hget _ _ e1 with ⟨ha, hb⟩ | ⟨ha, hb⟩ <;> rcases hget _ _ e2 with ⟨hc1, hd1⟩ | ⟨hc1, hd1⟩
    · omega
    · rw [hb] at hh
      have := uniq_idx h.uniq hk hd1 hh.1 hh.2
      omega
    · rw [hd1] at hh
      have := uniq_idx h.uniq hb hk hh.1 hh.2
      omega
    · have := uniq_idx h.uniq hb hd1 hh.1 hh.2
      omega
  · obtain ⟨j, hj⟩ := List.getElem?_of_mem hs
    rcases hget j s hj with ⟨_, rfl⟩ | ⟨hjk, hj'⟩
    · refine ⟨x, hx, hc, ?_⟩
      rw [mo_set hx (by omega) _ hx, if_pos ⟨rfl, rfl⟩]
      exact ⟨rfl, by omega⟩
    · obtain ⟨y, hy, hcy, hmy, hz⟩ := h.row s (List.mem_of_getElem? hj')
      refine ⟨y, hy, hcy, ?_⟩
      rw [mo_set hx (by omega) _ hy, if_neg (fun hh => hjk (uniq_idx h.uniq hj' hk hh.1 (by omega)))]
      exact ⟨hmy, hz⟩
  · rw [mo_set hx (by omega) _ hx'] at hm
    by_cases hh : f' = fileR r ∧ x' = x
    · obtain ⟨rfl, rfl⟩ := hh
      exact ⟨{ r with m := (d : Int) }, List.mem_of_getElem? (List.getElem?_set_self hkl), rfl, hc⟩
    · rw [if_neg hh] at hm
      obtain ⟨s, hs, h1, h2⟩ := h.all f' x' hx' hm
      obtain ⟨j, hj⟩ := List.getElem?_of_mem hs
      by_cases hjk : j = k
      · subst hjk
        rw [hk] at hj
        cases hj
        exact absurd ⟨h1.symm, by omega⟩ hh
      · exact ⟨s, List.mem_of_getElem? (by rw [List.getElem?_set_ne (fun e => hjk e.symm)]; exact hj), h1, h2⟩
/-- A row less. -/
theorem RowsOk.less {M : Fi → Nat} {R : List RowR} (h : RowsOk M R) {k : Nat} {r : RowR} (hk : R[k]? = some r) {x : Nat} (hx : x < 8) (hc : r.c = x) : RowsOk (setM M (fileR r) (wi (M (fileR r)) x 0)) (R.take k ++ R.drop (k + 1)) := by
  have hmem : ∀ s, s ∈ R.take k ++ R.drop (k + 1) ↔ ∃ j, j ≠ k ∧ R[j]? = some s := fun s => by
    rw [List.mem_append, List.mem_iff_getElem?, List.mem_iff_getElem?]
    constructor
    · rintro (⟨j, hj⟩ | ⟨j, hj⟩)
      · rw [List.getElem?_take] at hj
        split at hj
        · exact ⟨j, by omega, hj⟩
        · cases hj
      · rw [List.getElem?_drop] at hj
        exact ⟨k + 1 + j, by omega, hj⟩
    · rintro ⟨j, hjk, hj⟩
      rcases Nat.lt_or_gt_of_ne hjk with hlt | hgt
      · exact .inl ⟨j, by rw [List.getElem?_take_of_lt hlt]; exact hj⟩
      · exact .inr ⟨j - (k + 1), by rw [List.getElem?_drop, show k + 1 + (j - (k + 1)) = j by omega]; exact hj⟩
  refine ⟨?_, fun s hs => ?_, fun f' x' hx' hm => ?_⟩
  · refine List.pairwise_append.2 ⟨h.uniq.sublist (List.take_sublist _ _), h.uniq.sublist (List.drop_sublist _ _), fun a ha b hb hab => ?_⟩
    obtain ⟨i, hi⟩ := List.mem_iff_getElem?.1 ha
    obtain ⟨j, hj⟩ := List.mem_iff_getElem?.1 hb
    rw [List.getElem?_take] at hi
    rw [List.getElem?_drop] at hj
    split at hi
    · have := uniq_idx h.uniq hi hj hab.1 hab.2
      omega
    · cases hi
  · obtain ⟨j, hjk, hj⟩ := (hmem s).1 hs
    obtain ⟨y, hy, hcy, hmy, hz⟩ := h.row s (List.mem_of_getElem? hj)
    refine ⟨y, hy, hcy, ?_⟩
    rw [mo_set hx (by decide) _ hy, if_neg (fun hh => hjk (uniq_idx h.uniq hj hk hh.1 (by omega)))]
    exact ⟨hmy, hz⟩
  · rw [mo_set hx (by decide) _ hx'] at hm
    by_cases hh : f' = fileR r ∧ x' = x
    · rw [if_pos hh] at hm
      exact absurd rfl hm
    · rw [if_neg hh] at hm
      obtain ⟨s, hs, h1, h2⟩ := h.all f' x' hx' hm
      obtain ⟨j, hj⟩ := List.getElem?_of_mem hs
      refine ⟨s, (hmem s).2 ⟨j, fun e => ?_, hj⟩, h1, h2⟩
      subst e
      rw [hk] at hj
      cases hj
      exact hh ⟨h1.symm, by omega⟩
theorem len_less {R : List RowR} {k : Nat} (hk : k < R.length) : (R.take k ++ R.drop (k + 1)).length + 1 = R.length := by
  rw [List.length_append, List.length_take, List.length_drop]
  omega

/-- How many. -/
def keysOf (M : Fi → Nat) (FL : List Fi) : Nat → List (Fi × Int)
  | 0 => []
  | k + 1 => keysOf M FL k ++ (ofL M FL (k : Nat)).map fun f => (f, ((k : Nat) : Int))
theorem keysOf_len (M : Fi → Nat) (FL : List Fi) : ∀ k, (keysOf M FL k).length = lenN M FL k
  | 0 => rfl
  | k + 1 => by rw [keysOf, List.length_append, List.length_map, keysOf_len M FL k, lenN]
theorem keysOf_mem {M : Fi → Nat} {FL : List Fi} (hFL : FilesOf M FL) : ∀ (k : Nat), k ≤ 8 → ∀ (f : Fi) (c : Int), (f, c) ∈ keysOf M FL k ↔ ∃ x : Nat, x < k ∧ c = x ∧ mo (M f) x ≠ 0
  | 0, _, f, c => by simp [keysOf]
  | k + 1, hk, f, c => by
    have hin : f ∈ ofL M FL (k : Nat) ↔ mo (M f) k ≠ 0 := by
      unfold ofL
      rw [List.mem_filter, decide_eq_true_iff, hFL.2 f, modeI_nat _ (by omega)]
      exact ⟨fun h => h.2, fun h => ⟨fun h0 => h (by rw [h0]; simp [mo]), h⟩⟩
    rw [keysOf, List.mem_append, keysOf_mem hFL k (by omega) f c, List.mem_map]
    constructor
    · rintro (⟨x, h1, h2, h3⟩ | ⟨f', h1, h2⟩)
      · exact ⟨x, by omega, h2, h3⟩
      · obtain ⟨rfl, rfl⟩ := Prod.mk.inj h2
        exact ⟨k, by omega, rfl, hin.1 h1⟩
    · rintro ⟨x, h1, h2, h3⟩
      by_cases hx : x = k
      · subst hx
        exact .inr ⟨f, hin.2 h3, by rw [h2]⟩
      · exact .inl ⟨x, by omega, h2, h3⟩
theorem keysOf_nodup {M : Fi → Nat} {FL : List Fi} (hFL : FilesOf M FL) : ∀ k : Nat, k ≤ 8 → (keysOf M FL k).Nodup
  | 0, _ => .nil
  | k + 1, hk => by
    rw [keysOf]
    refine List.nodup_append.2 ⟨keysOf_nodup hFL k (by omega), List.pairwise_map.2 (((filesOf_nodup hFL).filter _).imp fun h e => h (Prod.mk.inj e).1), fun a ha b hb hab => ?_⟩
    obtain ⟨f, hf, rfl⟩ := List.mem_map.1 hb
    subst hab
    obtain ⟨x, h1, h2, _⟩ := (keysOf_mem hFL k (by omega) f _).1 ha
    omega
theorem RowsOk.count {M : Fi → Nat} {R : List RowR} (h : RowsOk M R) {FL : List Fi} (hFL : FilesOf M FL) : lenN M FL 8 = R.length := by
  have hp : (R.map fun r => (fileR r, r.c)).Perm (keysOf M FL 8) := by
    refine (List.perm_ext_iff_of_nodup (List.pairwise_map.2 (h.uniq.imp fun hh e => hh ⟨(Prod.mk.inj e).1, (Prod.mk.inj e).2⟩)) (keysOf_nodup hFL 8 (Nat.le_refl _))).2 fun ⟨f, c⟩ => ?_
    rw [keysOf_mem hFL 8 (Nat.le_refl _), List.mem_map]
    constructor
    · rintro ⟨r, hr, he⟩
      obtain ⟨rfl, rfl⟩ := Prod.mk.inj he
      obtain ⟨x, h1, h2, _, h4⟩ := h.row r hr
      exact ⟨x, h1, h2, h4⟩
    · rintro ⟨x, h1, rfl, h3⟩
      obtain ⟨r, hr, h4, h5⟩ := h.all f x h1 h3
      exact ⟨r, hr, by rw [h4, h5]⟩
  have := hp.length_eq
  rw [List.length_map, keysOf_len] at this
  exact this.symm
end Go.Proofs.Ytnjiocikpigegaa
