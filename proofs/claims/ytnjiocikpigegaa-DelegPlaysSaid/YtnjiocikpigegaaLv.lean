/- lives walked: whether any delegation is given at all. -/
import Derived.Test.YtnjiocikpigegaaWk
namespace Go.Proofs.Ytnjiocikpigegaa
open Go.RowKit Go.Tn Go.Tn.Mo Go.Maps Go.Sort Go.Shelf

theorem subset_len {κ : Type} [DecidableEq κ] : ∀ {xs ys : List κ}, xs.Nodup → (∀ x ∈ xs, x ∈ ys) → xs.length ≤ ys.length
  | [], ys, _, _ => Nat.zero_le _
  | x :: xs, ys, hn, hs => by
    obtain ⟨h1, h2⟩ := List.nodup_cons.1 hn
    have hx : x ∈ ys := hs x (by simp)
    have := subset_len (xs := xs) (ys := ys.erase x) h2 fun y hy => (List.mem_erase_of_ne (fun e : y = x => h1 (e ▸ hy))).2 (hs y (by simp [hy]))
    rw [List.length_erase_of_mem hx] at this
    have hpos : 0 < ys.length := List.length_pos_of_mem hx
    rw [List.length_cons]
    omega
theorem tab_len {w : World} {b m clk : Nat} {L : Ents Fi} {M : Fi → Nat} (h : TabAt w b m L clk M) (A : List Fi) (hA : ∀ f, M f ≠ 0 → f ∈ A) : L.length ≤ A.length := by
  have := subset_len (keys_nodup h.wf) (ys := A) fun x hx => by
    obtain ⟨e, he, rfl⟩ := List.mem_map.1 hx
    refine hA _ fun h0 => ?_
    have hg := h.get e.1
    rw [if_pos h0, get_none] at hg
    exact hg e he rfl
  simpa using this

def M1 : Fi → Nat := setM (fun _ => 0) (2, 1) (wi 0 1 (max 1 (mo 0 1)))
theorem M1_at : M1 (2, 1) = 4 := by decide
theorem M1_files : FilesOf M1 [(2, 1)] := by
  refine ⟨List.pairwise_singleton _ _, fun f => ?_⟩
  unfold M1 setM
  by_cases hf : f = (2, 1)
  · subst hf; simp; decide
  · simp [hf]

set_option maxHeartbeats 2000000 in
theorem lives_any (w : World) : Calls Try.prog 13 #[] w fun e w' => e = .returned (.bool true) ∧ Below w.heap.size w w' := by
  go_enter Try.func13, Try.ntmps13
  go_wp2_with fail
  refine (new_any w).mono ?_
  rintro e w1 ⟨b, m, rfl, h1, hb, hm, hb1⟩
  have hal : Below w1.heap.size w1 (w1.alloc (.cells #[.int .i64 2, .int .i64 1] 24)) := (Below.refl _ _).alloc (Nat.le_refl _) _
  have h2 := h1.below hal h1.b_lt h1.m_lt
  have hbx : (w1.alloc (.cells #[.int .i64 2, .int .i64 1] 24)).heap[w1.heap.size]? = some (.cells #[.int .i64 2, .int .i64 1] 24 (0, 0)) := heap_alloc_at
  have hb2 : Below w.heap.size w (w1.alloc (.cells #[.int .i64 2, .int .i64 1] 24)) := hb1.trans (hal.mono hb1.size)
  have hbs : w1.heap.size < (w1.alloc (.cells #[.int .i64 2, .int .i64 1] 24)).heap.size := by simp
  have hmw : m ≠ w1.heap.size := fun e => by have := h1.m_lt; omega
  have HX := Lib.hid hbx
  clear hal hbx
  go_wp2_with fail
  generalize w1.alloc (.cells #[.int .i64 2, .int .i64 1] 24) = w2 at *
  refine (grant_ok w2 b m 0 [] _ h2 2 1 1 1 (by decide) (.inl rfl) (by decide)).mono ?_
  rintro e w3 ⟨rfl, ⟨L3, c3, h3⟩, hm3⟩
  have h3 : TabAt w3 b m L3 c3 M1 := h3
  have hx3 : w3.heap[w1.heap.size]? = some (.cells #[.int .i64 2, .int .i64 1] 24 (0, 0)) := (hm3.block _ hbs (fun e => hmw e.symm)).trans HX.out
  have hb3 : Below w.heap.size w w3 := hb2.trans (hm3.below hb2.size (fun x hx e => by omega))
  have x0 : w3.cell? ⟨w1.heap.size, 0, none⟩ = some (.int .i64 2) := cell_of hx3 rfl
  have x1 : w3.cell? ⟨w1.heap.size, 1, none⟩ = some (.int .i64 1) := cell_of hx3 rfl
  have hx3l := lt_of_block hx3
  go_wp2_with fail
  refine (grant_busy w3 b m c3 L3 M1 h3 2 1 2 2 (by decide) (.inr rfl) (by rw [M1_at]; decide)).mono ?_
  rintro e w4 ⟨rfl, hb4⟩
  have h4 := h3.below hb4 h3.b_lt h3.m_lt
  have y0 : w4.cell? ⟨w1.heap.size, 0, none⟩ = some (.int .i64 2) := (hb4.cell (p := ⟨w1.heap.size, 0, none⟩) hx3l).trans x0
  have y1 : w4.cell? ⟨w1.heap.size, 1, none⟩ = some (.int .i64 1) := (hb4.cell (p := ⟨w1.heap.size, 1, none⟩) hx3l).trans x1
  clear x0 x1
  go_wp2_with fail
  refine (mode_any w4 _ M1 h4.v 2 1 1).mono ?_
  rintro e w5 ⟨rfl, hb5⟩
  have h5 := h4.below hb5 h4.b_lt h4.m_lt
  rw [M1_at, show modeI 4 1 = 1 from by decide]
  have hl5 : L3.length ≤ 1000 := Nat.le_trans (tab_len h5 [(2, 1)] fun f hf => (M1_files.2 f).2 hf) (by decide)
  go_wp2_with fail
  refine (len_any w5 _ M1 (.inr ⟨b, m, L3, c3, rfl, h5, hl5⟩) [(2, 1)] M1_files).mono ?_
  rintro e w6 ⟨rfl, hb6⟩
  rw [show lenN M1 [(2, 1)] 8 = 1 from by decide]
  go_wp2
  go_ret
  exact ⟨rfl, hb3.trans ((hb4.trans ((hb5.trans (hb6.mono hb5.size)).mono hb4.size)).mono hb3.size)⟩
end Go.Proofs.Ytnjiocikpigegaa
