/- Proved: NameJoins returns true and its arguments read as they did, at the card that ties the listed tables to the program's text. No condition on the list of texts and the text. -/
import Derived.Test.YtapmjchlkaicpaaDoorWh
import Derived.Test.YtapmjchlkaicpaaDoorJc
import Derived.Test.YtapmjchlkaicpaaDoorCards
namespace Go.Proofs.YtapmjchlkaicpaaDoor
open Go.ChangeShapes Go.WideShapes Go.ChangeAt Go.ChangeMaps Go.RowKit Go.Tn Go.Tn.Names

theorem flatStr : flat Tryd.prog 1 9 = some [9] := by kernel_rfl
theorem cellsStr : Tryd.prog.cellsOf 9 = [9].length := by kernel_rfl

/-- What the law is handed: a list of texts. -/
theorem texts_of {H : Type} {enc : TypeId × Value → H} {w : World} {base : Nat} {spare : Nat → Bool} {held : Bool} {ao : Option Addr} {n cap : Nat} {x : DataW H} {ps : List MemPlace}
    (h : DataW.Trod enc Tryd.prog w base spare held 23 (.slice ao n cap) x ps) : ∃ xs : List ByteArray, TextSl w (.slice ao n cap) xs ∧ sizesTo maxLen xs := by
  rcases open_flat Tryd.underlying23 flatStr cellsStr (by decide) h ⟨_, _, _, rfl⟩ with hv | ⟨b, off, spot, len, cap', hv, hl, hm, hin, hc⟩
  · cases hv
    exact ⟨[], nil_sl w, fun x hx => by cases hx⟩
  · cases hv
    have hex : ∀ i : Nat, ∃ z : ByteArray, (i < n → w.cell? ⟨b, off + i, none⟩ = some (.string z)) ∧ z.size ≤ maxLen := fun i => by
      by_cases hi : i < n
      · obtain ⟨c, h1, h2⟩ := hc i hi 0 9 rfl
        obtain ⟨z, rfl, hz⟩ := h2.string Tryd.underlying9
        exact ⟨z, fun _ => by simpa using h1, hz⟩
      · exact ⟨ByteArray.empty, fun h => absurd h hi, Nat.zero_le _⟩
    refine ⟨(List.range n).map fun i => Classical.choose (hex i), ⟨_, _, by rw [List.length_map, List.length_range], by simpa using hl, hm, fun h0 => ⟨b, off, ?_, (hin (by simpa using h0)).2, fun i y hi => ?_⟩⟩, fun y hy => ?_⟩
    · rw [(hin (by simpa using h0)).1]
    · obtain ⟨hlt, he⟩ := List.getElem?_eq_some_iff.1 hi
      have hn : i < n := by simpa using hlt
      have hy : Classical.choose (hex i) = y := by simpa using he
      rw [← hy]
      exact (Classical.choose_spec (hex i)).1 hn
    · obtain ⟨i, _, rfl⟩ := List.mem_map.1 hy
      exact (Classical.choose_spec (hex i)).2

set_option maxRecDepth 100000 in
theorem nameJoins_lifted (os : Os) (started : os.Started) (H : Type) (enc : TypeId × Value → H) :
    ReturnsInHanded {} Tryd.checked os 5 .any (fun w args => (Rows.nameJoinsSpec.pre enc Tryd.prog Tryd.f5 Rows.nameJoinsRow.domain false w args ∧ laidMetH Tryd.prog Rows.nameJoinsRow.laid w) ∧ sizedMet enc Tryd.prog Tryd.f5 (OpenSpec.ofChange Rows.nameJoinsSpec) false w args)
      (Rows.nameJoinsSpec.post enc Tryd.prog Tryd.f5 false true false false) := by
  refine handed_both (C := Tryd.checked) (X := fun w _ => laidMetH Tryd.prog Rows.nameJoinsRow.laid w) (fun _ _ _ hh h => h.of_heap hh) Tryd.own started (by kernel_rfl) Tryd.func5
    (ChangeSpec.witness_shaped (enc := enc) (C := Tryd.checked) (os := os) (X := fun w _ => laidMetH Tryd.prog Rows.nameJoinsRow.laid w) false (World.laidAll Tryd.prog os Rows.nameJoinsRow.laid) #[.slice none 0 0, .string ByteArray.empty] 8 (World.laidAll_os _ _ _)
      (World.shaped_of_ZipB (by kernel_rfl) (by kernel_rfl)) (by kernel_rfl) (by kernel_rfl) (by kernel_rfl)
      (by rw [MakeChecks.laidMetH_plain _ _ _ (by kernel_rfl)]; exact laidMet_laidAll _ (by kernel_rfl) (by kernel_rfl))) ?_
  intro W base args ds gs before hval0 hW hsh
  have hval : ∀ (j : Nat) t v, Tryd.f5.params[j]? = some t → args[j]? = some v → Value.okWide Tryd.prog W .any base t v := hval0
  have hR := room_of hsh
  have hW' := hW
  obtain ⟨p, q, hA0, hV, rfl, hfz, hnd⟩ := hW
  have hA : DataW.TrodAll enc Tryd.prog W 0 (fun _ => true) true Tryd.f5.params.toList args.toList ds p := hA0
  rw [Tryd.params5] at hA hval
  obtain ⟨v0, vs0, d0, ds0, p0, q0, hargs, rfl, rfl, h0, r0⟩ := trodAll_cons hA
  obtain ⟨v1, vs1, d1, ds1, p1, q1, rfl, rfl, rfl, h1, r1⟩ := trodAll_cons r0
  obtain ⟨rfl, rfl, rfl⟩ := trodAll_nil r1
  obtain rfl : args = #[v0, v1] := by cases args; simp_all
  obtain ⟨rfl, rfl⟩ := trodVars_none hV
  obtain ⟨a0, len0, cap0, rfl⟩ := okWide_slice Tryd.underlying23 (hval 0 23 v0 rfl rfl)
  have k0 := h0
  have lt0 : ∀ x ∈ p0, x.block < W.heap.size := by obtain ⟨m, hm⟩ := k0; exact DataW.trod_lt m _ _ _ hm
  obtain ⟨xs, hv, hx⟩ := texts_of h0
  obtain ⟨a1, rfl, rfl, rfl, w1⟩ := open_string Tryd.underlying9 (hval 1 9 v1 rfl rfl) h1
  clear hA0 hval0
  refine (joins_walk W (.slice a0 len0 cap0) xs a1 hR hv hx w1).mono fun e W' ⟨he, bel⟩ => ?_
  subst he
  exact ⟨_, rfl, _, _, _, [], _, [], hW', trodAll_mk1 (shut_bool Tryd.underlying4 _), (trodAll_cons_mk (Below.trod Tryd.laidOut (by kernel_rfl) (of_decide_eq_true (by kernel_rfl)) k0 bel lt0) (trodAll_cons_mk (shut_string Tryd.underlying9 w1) trodAll_mk0)), rfl, bel.frame _, fun h => by cases h⟩

theorem nameJoins_row : Rows.NameJoinsSaid :=
  OpenClaim.holds_of_wide 5 Tryd.f5 rfl rfl rfl rfl rfl rfl rfl ⟨rfl, rfl, rfl, rfl, rfl⟩ rfl rfl rfl rfl rfl (by kernel_rfl) Tryd.func5 (by kernel_rfl)
    (of_decide_eq_true (by kernel_rfl)) (by unfold Func.isWrapper; first | (rw [if_pos (by decide +kernel)]; kernel_rfl) | (rw [if_neg (by decide +kernel)]; exact ⟨rfl, rfl⟩))
    (fun os started H enc _ => nameJoins_lifted os started H enc)

theorem nameJoins_holds : Rows.NameJoinsCardSaid :=
  Claim7.holds_tied_plain_at .later [] [.data, .pinned] true (true, "10d9d5c9cec01071b1562144c1a63c2e3232484ed3ae18e75ba70f372272b8aa") false
    nameJoins_row (fun _ h => by cases h) (by kernel_rfl) (fun _ h => by cases h) nameJoins_row_tie rfl ⟨rfl, rfl⟩ (by kernel_rfl) rfl
    (fun f fn hf hfn => by
      obtain rfl : f = 5 := Option.some.inj ((show Tryd.prog.funcNamed "tenancy/tenancylaw07.NameJoins" = some 5 by kernel_rfl).symm.trans hf) |>.symm
      obtain rfl : fn = Tryd.f5 := (Option.some.inj (Tryd.func5.symm.trans hfn)).symm
      exact ⟨by kernel_rfl, fun j t ht => by
        rw [Tryd.params5] at ht
        have hm : t ∈ [23, 9] := by simpa using Array.mem_of_getElem? ht
        have hall : ([23, 9].all fun u => !Tryd.prog.wantsStandIn u) = true := by kernel_rfl
        exact (show Tryd.prog.wantsStandIn t = false by simpa using List.all_eq_true.1 hall t hm)⟩)
    (by kernel_rfl)

end Go.Proofs.YtapmjchlkaicpaaDoor
