/- SameInts, Same walked: lists that are alike. -/
import Derived.Test.YtnjiocikpigegaaRi
namespace Go.Proofs.Ytnjiocikpigegaa
open Go.RowKit Go.Tn Go.Tn.Mo Go.Maps Go.Sort Go.Shelf

set_option maxHeartbeats 2000000 in
theorem sameInts_any (w : World) (u v : Value) (xs : List Int) (hu : LSl enI 1 w u xs) (hv : LSl enI 1 w v xs) : Calls Try.prog 20 #[u, v] w fun e w' => e = .returned (.bool true) ∧ Below w.heap.size w w' := by
  have hu0 := hu
  have hv0 := hv
  obtain ⟨au, cu, rfl, hu1, hu2, _⟩ := hu
  obtain ⟨av, cv, rfl, hv1, hv2, _⟩ := hv
  unfold maxLen at hu2 hv2
  go_enter Try.func20, Try.ntmps20
  go_wp2
  go_loopw [5] (fun kv wr => ∃ k : Nat, k ≤ xs.length ∧ kv = .int .i64 k ∧ Below w.heap.size w wr) (fun kv _ => xs.length - (intOf kv).toNat)
  case atStart => exact ⟨0, Nat.zero_le _, rfl, Below.refl _ _⟩
  case round =>
    obtain ⟨k, hk, rfl, hbr⟩ := hrel
    by_cases hlt : k < xs.length
    · have hlt' : (k : Int) < (xs.length : Int) := by omega
      obtain ⟨b1, o1, c1, hq1, hb1, hc1⟩ := hu0.at_ (List.getElem?_eq_getElem hlt)
      obtain ⟨b2, o2, c2, hq2, hb2, hc2⟩ := hv0.at_ (List.getElem?_eq_getElem hlt)
      obtain ⟨rfl, rfl⟩ : au = some ⟨b1, o1, none⟩ ∧ cu = c1 := by simpa using hq1
      obtain ⟨rfl, rfl⟩ : av = some ⟨b2, o2, none⟩ ∧ cv = c2 := by simpa using hq2
      have x1 := intCell (hc1.below' hbr hb1)
      have x2 := intCell (hc2.below' hbr hb2)
      clear hq1 hq2 hc1 hc2
      generalize xs[k] = x at *
      go_wp2
      go_quiet (fail)
      go_wp2
      go_roundw
      case rel => exact ⟨k + 1, by omega, by go_num, below_drewN hbr _⟩
      case measure => simp [intOf]; omega
    · obtain rfl : k = xs.length := by omega
      go_wp2
      go_ret
      exact ⟨rfl, hbr⟩

set_option maxHeartbeats 2000000 in
theorem same_any (w : World) (u v : Value) (xs : List Fi) (hu : LSl enF 2 w u xs) (hv : LSl enF 2 w v xs) : Calls Try.prog 17 #[u, v] w fun e w' => e = .returned (.bool true) ∧ Below w.heap.size w w' := by
  have hu0 := hu
  have hv0 := hv
  obtain ⟨au, cu, rfl, hu1, hu2, _⟩ := hu
  obtain ⟨av, cv, rfl, hv1, hv2, _⟩ := hv
  unfold maxLen at hu2 hv2
  go_enter Try.func17, Try.ntmps17
  go_wp2
  go_loopw [5] (fun kv wr => ∃ k : Nat, k ≤ xs.length ∧ kv = .int .i64 k ∧ Below w.heap.size w wr) (fun kv _ => xs.length - (intOf kv).toNat)
  case atStart => exact ⟨0, Nat.zero_le _, rfl, Below.refl _ _⟩
  case round =>
    obtain ⟨k, hk, rfl, hbr⟩ := hrel
    by_cases hlt : k < xs.length
    · have hlt' : (k : Int) < (xs.length : Int) := by omega
      obtain ⟨b1, o1, c1, hq1, hb1, hc1⟩ := hu0.at_ (List.getElem?_eq_getElem hlt)
      obtain ⟨b2, o2, c2, hq2, hb2, hc2⟩ := hv0.at_ (List.getElem?_eq_getElem hlt)
      obtain ⟨rfl, rfl⟩ : au = some ⟨b1, o1, none⟩ ∧ cu = c1 := by simpa using hq1
      obtain ⟨rfl, rfl⟩ : av = some ⟨b2, o2, none⟩ ∧ cv = c2 := by simpa using hq2
      have h1 := hc1.below' hbr hb1
      have h2 := hc2.below' hbr hb2
      clear hq1 hq2 hc1 hc2
      generalize xs[k] = x at *
      obtain ⟨i, g⟩ := x
      have x1 : wr.cell? ⟨b1, o1 + k * 2, none⟩ = some (.int .i64 i) := h1 0 (by simp [enF])
      have x2 : wr.cell? ⟨b1, o1 + k * 2 + 1, none⟩ = some (.int .i64 g) := h1 1 (by simp [enF])
      have y1 : wr.cell? ⟨b2, o2 + k * 2, none⟩ = some (.int .i64 i) := h2 0 (by simp [enF])
      have y2 : wr.cell? ⟨b2, o2 + k * 2 + 1, none⟩ = some (.int .i64 g) := h2 1 (by simp [enF])
      clear h1 h2
      go_wp2
      go_quiet (fail)
      go_wp2
      go_roundw
      case rel => exact ⟨k + 1, by omega, by go_num, below_drewN hbr _⟩
      case measure => simp [intOf]; omega
    · obtain rfl : k = xs.length := by omega
      go_wp2
      go_ret
      exact ⟨rfl, hbr⟩

/-! ### The document's Of is the program's -/
theorem sel_of {M : Fi → Nat} {R : List RowR} (h : RowsOk M R) {FL : List Fi} (hFL : FilesOf M FL) {c : Int} (hc : 0 ≤ c) (f : Fi) : Sel R c R.length f ↔ f ∈ ofL M FL c := by
  unfold ofL
  rw [List.mem_filter, decide_eq_true_iff, hFL.2 f]
  constructor
  · rintro ⟨j, r, _, hj, hf, hs⟩
    obtain ⟨x, hx, hcx, _, hz⟩ := h.row r (List.mem_of_getElem? hj)
    have hcc : c = (x : Int) := by omega
    rw [hcc, modeI_nat _ hx, ← hf]
    exact ⟨fun h0 => hz (by rw [h0]; simp [mo]), hz⟩
  · rintro ⟨_, hz⟩
    obtain ⟨x, rfl, hx, hm⟩ := modeI_ne hz
    obtain ⟨r, hr, h1, h2⟩ := h.all f x hx hm
    obtain ⟨j, hj⟩ := List.getElem?_of_mem hr
    exact ⟨j, r, (List.getElem?_eq_some_iff.1 hj).1, hj, h1, .inr h2⟩
theorem sel_all {M : Fi → Nat} {R : List RowR} (h : RowsOk M R) {FL : List Fi} (hFL : FilesOf M FL) (hlt : ∀ f, M f < 65536) (f : Fi) : Sel R (-1) R.length f ↔ f ∈ FL := by
  rw [hFL.2 f]
  constructor
  · rintro ⟨j, r, _, hj, hf, _⟩
    obtain ⟨x, hx, _, _, hz⟩ := h.row r (List.mem_of_getElem? hj)
    rw [← hf]
    exact fun h0 => hz (by rw [h0]; simp [mo])
  · intro h0
    have hex : ∃ c, c < 8 ∧ mo (M f) c ≠ 0 := Decidable.byContradiction fun hn => h0 ((mo_zero _ (hlt f)).2 fun c hc => Decidable.byContradiction fun hz => hn ⟨c, hc, hz⟩)
    obtain ⟨c, hc, hz⟩ := hex
    obtain ⟨r, hr, h1, h2⟩ := h.all f c hc hz
    obtain ⟨j, hj⟩ := List.getElem?_of_mem hr
    exact ⟨j, r, (List.getElem?_eq_some_iff.1 hj).1, hj, h1, .inl (by decide)⟩
theorem srt_uniq {l l' : List Fi} (h : Srt l) (h' : Srt l') (he : ∀ f, f ∈ l ↔ f ∈ l') : l = l' := by
  have nd : ∀ {l : List Fi}, Srt l → l.Nodup := fun h => h.imp fun {a b} hab e => by
    subst e
    rw [swoF.irrefl] at hab
    cases hab
  refine List.Perm.eq_of_pairwise (le := fun a b => ltOf cmpF a b = true) (fun a b _ _ h1 h2 => ?_) h h' ((List.perm_ext_iff_of_nodup (nd h) (nd h')).2 he)
  rw [ltF_iff] at h1 h2
  omega
theorem ofL_srt {M : Fi → Nat} {FL : List Fi} (hFL : FilesOf M FL) (c : Int) : Srt (ofL M FL c) := hFL.1.sublist List.filter_sublist
end Go.Proofs.Ytnjiocikpigegaa
