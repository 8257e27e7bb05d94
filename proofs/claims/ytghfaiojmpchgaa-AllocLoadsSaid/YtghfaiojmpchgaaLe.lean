/- Proved: AllocLoads returns true and its arguments read as they did. No condition: of all bytes and every number. -/
import Derived.Test.YtghfaiojmpchgaaLd
import Derived.Test.YtghfaiojmpchgaaWe
import Derived.WalkKit
import Derived.ProofKit
import Derived.OpenShut
import Derived.ShutString
import Derived.ChangeOld
import Derived.Below
import Derived.Lib.SmallJoins
namespace Go.Proofs.Ytghfaiojmpchgaa
open Go.ChangeShapes Go.WideShapes Go.ChangeAt Go.RowKit Go.Tn Go.Tn.Bits

theorem flatU8 : flat Try.prog 1 5 = some [5] := by kernel_rfl
theorem cellsU8 : Try.prog.cellsOf 5 = [5].length := by kernel_rfl

/-- What the law is handed: bytes. -/
theorem raw_of {H : Type} {enc : TypeId × Value → H} {w : World} {base : Nat} {spare : Nat → Bool} {held : Bool} {ao : Option Addr} {n cap : Nat} {x : DataW H} {ps : List MemPlace}
    (h : DataW.Trod enc Try.prog w base spare held 47 (.slice ao n cap) x ps) :
    n ≤ cap ∧ cap ≤ maxLen ∧ ∃ v : Nat → Nat, RawIn w ao n v := by
  rcases open_flat Try.underlying47 flatU8 cellsU8 (by decide) h ⟨_, _, _, rfl⟩ with hv | ⟨b, off, spot, len, cap', hv, hl, hm, hin, hc⟩
  · cases hv
    exact ⟨Nat.le_refl _, Nat.zero_le _, fun _ => 0, fun h => absurd h (Nat.lt_irrefl _)⟩
  · cases hv
    refine ⟨hl, hm, ?_⟩
    have hex : ∀ i : Nat, ∃ z : Nat, i < n → w.cell? ⟨b, off + i, none⟩ = some (.int .u8 z) ∧ z < 256 := fun i => by
      by_cases hi : i < n
      · obtain ⟨c, h1, h2⟩ := hc i hi 0 5 rfl
        obtain ⟨z, rfl, hz⟩ := h2.int Try.underlying5
        have hz' : 0 ≤ z ∧ z ≤ 255 := by
          have h2 := hz
          simp only [Lit.wf, Bool.and_eq_true, decide_eq_true_eq] at h2
          exact h2
        obtain ⟨m, rfl⟩ := Int.eq_ofNat_of_zero_le hz'.1
        exact ⟨m, fun _ => ⟨by simpa using h1, by omega⟩⟩
      · exact ⟨0, fun h => absurd h hi⟩
    refine ⟨fun i => Classical.choose (hex i), fun h0 => ⟨b, off, ?_, (hin h0).2, fun i hi => Classical.choose_spec (hex i) hi⟩⟩
    rw [(hin h0).1]

set_option maxRecDepth 100000 in
theorem loads_lifted (os : Os) (started : os.Started) (H : Type) (enc : TypeId × Value → H) :
    ReturnsInHanded {} Try.checked os 6 .any (Rows.allocLoadsSpec.pre6 enc Try.prog Try.f6 Rows.allocLoadsRow.domain false) (Rows.allocLoadsSpec.post enc Try.prog Try.f6 false true false false) := by
  refine returnsInHanded_of_change (C := Try.checked) Try.own started (by kernel_rfl) Try.func6
    (ChangeSpec.witness6 (enc := enc) (C := Try.checked) false ⟨#[], #[.slice none 0 0, .int .i64 0], []⟩ 8 (by kernel_rfl) (by kernel_rfl) (by kernel_rfl) (by kernel_rfl)) ?_
  intro W base args ds gs before hval0 hW hcnd _
  have hval : ∀ (j : Nat) t v, Try.f6.params[j]? = some t → args[j]? = some v → Value.okWide Try.prog W .any base t v := hval0
  have hW' := hW
  obtain ⟨p, q, hA0, hV, rfl, hfz, hnd⟩ := hW
  have hA : DataW.TrodAll enc Try.prog W 0 (fun _ => true) true Try.f6.params.toList args.toList ds p := hA0
  rw [Try.params6] at hA hval
  obtain ⟨v0, vs0, d0, ds0, p0, q0, hargs, rfl, rfl, h0, r0⟩ := trodAll_cons hA
  obtain ⟨v1, vs1, d1, ds1, p1, q1, rfl, rfl, rfl, h1, r1⟩ := trodAll_cons r0
  obtain ⟨rfl, rfl, rfl⟩ := trodAll_nil r1
  obtain rfl : args = #[v0, v1] := by cases args; simp_all
  obtain ⟨rfl, rfl⟩ := trodVars_none hV
  obtain ⟨a0, len0, cap0, rfl⟩ := okWide_slice Try.underlying47 (hval 0 47 v0 rfl rfl)
  have k0 := h0
  have lt0 : ∀ x ∈ p0, x.block < W.heap.size := by obtain ⟨m, hm⟩ := k0; exact DataW.trod_lt m _ _ _ hm
  obtain ⟨hl, hc, v, hz⟩ := raw_of h0
  obtain ⟨a1, rfl, rfl, rfl, w1⟩ := open_int Try.underlying3 (hval 1 3 v1 rfl rfl) h1
  clear hA0 hval0
  refine (loads_walk W a1 a0 len0 cap0 v hz hl hc).mono fun e W' ⟨he, bel⟩ => ?_
  subst he
  exact ⟨_, rfl, _, _, _, [], _, [], hW', trodAll_mk1 (shut_bool Try.underlying4 _), (trodAll_cons_mk (Below.trod Try.laidOut (by kernel_rfl) (of_decide_eq_true (by kernel_rfl)) k0 bel lt0) (trodAll_cons_mk (shut_int Try.underlying3 w1) trodAll_mk0)), rfl, bel.frame _, fun h => by cases h⟩

theorem loads_holds : Rows.AllocLoadsSaid :=
  OpenClaim.holds_of_wide 6 Try.f6 rfl rfl rfl rfl rfl rfl rfl ⟨rfl, rfl, rfl, rfl, rfl⟩ rfl rfl rfl rfl rfl (by kernel_rfl) Try.func6 (by kernel_rfl)
    (of_decide_eq_true (by kernel_rfl)) (by unfold Func.isWrapper; first | (rw [if_pos (by decide +kernel)]; kernel_rfl) | (rw [if_neg (by decide +kernel)]; exact ⟨rfl, rfl⟩))
    (fun os started H enc _ => loads_lifted os started H enc)

end Go.Proofs.Ytghfaiojmpchgaa
