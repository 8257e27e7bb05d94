/- Proved: HeldRelies returns true and its argument reads as it did. No condition: of every list of calls. -/
import Derived.Test.YthckjciblngaaaaVg
import Derived.Test.YthckjciblngaaaaNc
namespace Go.Proofs.Ythckjciblngaaaa
open Go.ChangeShapes Go.WideShapes Go.ChangeAt Go.RowKit Go.Tn Go.Joins

theorem flatDo : flat Try.prog 3 41 = some [3, 3, 3, 3, 32] := by kernel_rfl
theorem cellsDo : Try.prog.cellsOf 41 = [3, 3, 3, 3, 32].length := by kernel_rfl

theorem dos_of {H : Type} {enc : TypeId × Value → H} {w : World} {base : Nat} {spare : Nat → Bool} {held : Bool} {ao : Option Addr} {n cap : Nat} {x : DataW H} {ps : List MemPlace}
    (h : DataW.Trod enc Try.prog w base spare held 22 (.slice ao n cap) x ps) :
    ∃ es : List DoV, LSl enV 5 w (.slice ao n cap) es ∧ ∀ d ∈ es, 0 ≤ d.v := by
  rcases open_flat Try.underlying22 flatDo cellsDo (by decide) h ⟨_, _, _, rfl⟩ with hv | ⟨b, off, spot, len, cap', hv, hl, hm, hin, hc⟩
  · cases hv
    exact ⟨[], LSl.nil w, fun d hd => by cases hd⟩
  · cases hv
    have hex : ∀ i : Nat, ∃ d : DoV, 0 ≤ d.v ∧ (i < n → Lies w b (off + i * 5) (enV d).toArray) := fun i => by
      by_cases hi : i < n
      · have hz : ∀ j, j < 4 → ∃ z : Int, w.cell? ⟨b, off + i * 5 + j, none⟩ = some (.int .i64 z) := fun j hj => by
          obtain ⟨c, h1, h2⟩ := hc i hi j 3 (by
            match j, hj with
            | 0, _ => rfl
            | 1, _ => rfl
            | 2, _ => rfl
            | 3, _ => rfl)
          obtain ⟨z, rfl, _⟩ := h2.int Try.underlying3
          exact ⟨z, h1⟩
        obtain ⟨z0, h0⟩ := hz 0 (by decide)
        obtain ⟨z1, h1⟩ := hz 1 (by decide)
        obtain ⟨z2, h2⟩ := hz 2 (by decide)
        obtain ⟨z3, h3⟩ := hz 3 (by decide)
        obtain ⟨z4, h4, hz4⟩ : ∃ z : Int, w.cell? ⟨b, off + i * 5 + 4, none⟩ = some (.int .u64 z) ∧ 0 ≤ z := by
          obtain ⟨c, h1, h2⟩ := hc i hi 4 32 rfl
          obtain ⟨z, rfl, h3⟩ := h2.int Try.underlying32
          exact ⟨z, h1, (bounds_u64 h3).1⟩
        refine ⟨⟨z0, z1, z2, z3, z4⟩, hz4, fun _ j hj => ?_⟩
        have hj5 : j < 5 := by simpa [enV] using hj
        match j, hj5 with
        | 0, _ => exact h0
        | 1, _ => exact h1
        | 2, _ => exact h2
        | 3, _ => exact h3
        | 4, _ => exact h4
      · exact ⟨⟨0, 0, 0, 0, 0⟩, Int.le_refl _, fun h => absurd h hi⟩
    have hlen : ((List.range n).map fun i => Classical.choose (hex i)).length = n := by simp
    refine ⟨(List.range n).map fun i => Classical.choose (hex i), ⟨_, cap, by rw [hlen], by rw [hlen]; exact hl, hm, fun h0 => ?_⟩, fun d hd => by
      obtain ⟨i, _, rfl⟩ := List.mem_map.1 hd
      exact (Classical.choose_spec (hex i)).1⟩
    rw [hlen] at h0
    refine ⟨b, off, by rw [(hin h0).1], (hin h0).2, fun i y hi => ?_⟩
    have hlt : i < n := by
      have := (List.getElem?_eq_some_iff.1 hi).1
      rwa [hlen] at this
    have : Classical.choose (hex i) = y := by simpa [hlt] using hi
    rw [← this]
    exact (Classical.choose_spec (hex i)).2 hlt

set_option maxRecDepth 100000 in
theorem relies_lifted (os : Os) (started : os.Started) (H : Type) (enc : TypeId × Value → H) :
    ReturnsInHanded {} Try.checked os 3 .any (Rows.heldReliesSpec.pre6 enc Try.prog Try.f3 Rows.heldReliesRow.domain false) (Rows.heldReliesSpec.post enc Try.prog Try.f3 false true false false) := by
  refine returnsInHanded_of_change (C := Try.checked) Try.own started (by kernel_rfl) Try.func3
    (ChangeSpec.witness6 (enc := enc) (C := Try.checked) false ⟨#[], #[.slice none 0 0], []⟩ 8 (by kernel_rfl) (by kernel_rfl) (by kernel_rfl) (by kernel_rfl)) ?_
  intro W base args ds gs before hval0 hW hcnd _
  have hval : ∀ (j : Nat) t v, Try.f3.params[j]? = some t → args[j]? = some v → Value.okWide Try.prog W .any base t v := hval0
  have hW' := hW
  obtain ⟨p, q, hA0, hV, rfl, hfz, hnd⟩ := hW
  have hA : DataW.TrodAll enc Try.prog W 0 (fun _ => true) true Try.f3.params.toList args.toList ds p := hA0
  rw [Try.params3] at hA hval
  obtain ⟨v0, vs0, d0, ds0, p0, q0, hargs, rfl, rfl, h0, r0⟩ := trodAll_cons hA
  obtain ⟨rfl, rfl, rfl⟩ := trodAll_nil r0
  obtain rfl : args = #[v0] := by cases args; simp_all
  obtain ⟨rfl, rfl⟩ := trodVars_none hV
  obtain ⟨a0, len0, cap0, rfl⟩ := okWide_slice Try.underlying22 (hval 0 22 v0 rfl rfl)
  have k0 := h0
  have lt0 : ∀ x ∈ p0, x.block < W.heap.size := by obtain ⟨m, hm⟩ := k0; exact DataW.trod_lt m _ _ _ hm
  obtain ⟨es, hes, hpos⟩ := dos_of h0
  clear hA0 hval0
  refine (relies_walk W _ es hes hpos).mono fun e W' ⟨he, bel⟩ => ?_
  subst he
  exact ⟨_, rfl, _, _, _, [], _, [], hW', trodAll_mk1 (shut_bool Try.underlying4 _), (trodAll_cons_mk (Below.trod Try.laidOut (by kernel_rfl) (of_decide_eq_true (by kernel_rfl)) k0 bel lt0) trodAll_mk0), rfl, bel.frame _, fun h => by cases h⟩

theorem relies_holds : Rows.HeldReliesSaid :=
  OpenClaim.holds_of_wide 3 Try.f3 rfl rfl rfl rfl rfl rfl rfl ⟨rfl, rfl, rfl, rfl, rfl⟩ rfl rfl rfl rfl rfl (by kernel_rfl) Try.func3 (by kernel_rfl)
    (of_decide_eq_true (by kernel_rfl)) (by unfold Func.isWrapper; first | (rw [if_pos (by decide +kernel)]; kernel_rfl) | (rw [if_neg (by decide +kernel)]; exact ⟨rfl, rfl⟩))
    (fun os started H enc _ => relies_lifted os started H enc)

end Go.Proofs.Ythckjciblngaaaa
