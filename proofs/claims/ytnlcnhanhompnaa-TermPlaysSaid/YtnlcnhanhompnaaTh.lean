/- Proved: TermPlays returns true and its arguments read as they did. No condition: of every two numbers and every list of calls. -/
import Derived.Test.YtnlcnhanhompnaaTg
import Derived.Test.YtnlcnhanhompnaaSc
import Derived.WalkKit
import Derived.ProofKit
import Derived.OpenShut
import Derived.ShutString
import Derived.ChangeOld
import Derived.Below
import Derived.Lib.SmallJoins
namespace Go.Proofs.Ytnlcnhanhompnaa
open Go.ChangeShapes Go.WideShapes Go.ChangeAt Go.RowKit Go.Tn

theorem flatDo : flat Try.prog 2 51 = some [3, 3, 24] := by kernel_rfl
theorem cellsDo : Try.prog.cellsOf 51 = [3, 3, 24].length := by kernel_rfl

/-- What the law is handed: a list of calls. -/
theorem dos_of {H : Type} {enc : TypeId × Value → H} {w : World} {base : Nat} {spare : Nat → Bool} {held : Bool} {ao : Option Addr} {n cap : Nat} {x : DataW H} {ps : List MemPlace}
    (h : DataW.Trod enc Try.prog w base spare held 40 (.slice ao n cap) x ps) :
    n ≤ cap ∧ cap ≤ maxLen ∧ ∃ (ks cs : Nat → Int) (ts : Nat → Nat), (∀ i, ts i < 18446744073709551616) ∧ DosIn w ao n ks cs ts := by
  rcases open_flat Try.underlying40 flatDo cellsDo (by decide) h ⟨_, _, _, rfl⟩ with hv | ⟨b, off, spot, len, cap', hv, hl, hm, hin, hc⟩
  · cases hv
    exact ⟨Nat.le_refl _, Nat.zero_le _, fun _ => 0, fun _ => 0, fun _ => 0, fun _ => Nat.zero_lt_of_lt (Nat.lt_succ_self 18446744073709551615), fun h => absurd h (Nat.lt_irrefl _)⟩
  · cases hv
    refine ⟨hl, hm, ?_⟩
    have hex : ∀ i : Nat, ∃ z : Int, i < n → w.cell? ⟨b, off + i * 3, none⟩ = some (.int .i64 z) := fun i => by
      by_cases hi : i < n
      · obtain ⟨c, h1, h2⟩ := hc i hi 0 3 rfl
        obtain ⟨z, rfl, _⟩ := h2.int Try.underlying3
        exact ⟨z, fun _ => by simpa using h1⟩
      · exact ⟨0, fun h => absurd h hi⟩
    have hex' : ∀ i : Nat, ∃ z : Int, i < n → w.cell? ⟨b, off + i * 3 + 1, none⟩ = some (.int .i64 z) := fun i => by
      by_cases hi : i < n
      · obtain ⟨c, h1, h2⟩ := hc i hi 1 3 rfl
        obtain ⟨z, rfl, _⟩ := h2.int Try.underlying3
        exact ⟨z, fun _ => by simpa using h1⟩
      · exact ⟨0, fun h => absurd h hi⟩
    have hex2 : ∀ i : Nat, ∃ z : Nat, z < 18446744073709551616 ∧ (i < n → w.cell? ⟨b, off + i * 3 + 2, none⟩ = some (.int .u64 z)) := fun i => by
      by_cases hi : i < n
      · obtain ⟨c, h1, h2⟩ := hc i hi 2 24 rfl
        obtain ⟨z, rfl, hz⟩ := h2.int Try.underlying24
        obtain ⟨hz1, hz2⟩ := wf_u64_bounds hz
        obtain ⟨k, rfl⟩ := Int.eq_ofNat_of_zero_le hz1
        exact ⟨k, by omega, fun _ => by simpa using h1⟩
      · exact ⟨0, by decide, fun h => absurd h hi⟩
    refine ⟨fun i => Classical.choose (hex i), fun i => Classical.choose (hex' i), fun i => Classical.choose (hex2 i), fun i => (Classical.choose_spec (hex2 i)).1, fun h0 => ⟨b, off, ?_, (hin h0).2, fun i hi => ⟨Classical.choose_spec (hex i) hi, Classical.choose_spec (hex' i) hi, (Classical.choose_spec (hex2 i)).2 hi⟩⟩⟩
    rw [(hin h0).1]

set_option maxRecDepth 100000 in
theorem plays_lifted (os : Os) (started : os.Started) (H : Type) (enc : TypeId × Value → H) :
    ReturnsInHanded {} Try.checked os 4 .any (Rows.termPlaysSpec.pre6 enc Try.prog Try.f4 Rows.termPlaysRow.domain false) (Rows.termPlaysSpec.post enc Try.prog Try.f4 false true false false) := by
  refine returnsInHanded_of_change (C := Try.checked) Try.own started (by kernel_rfl) Try.func4
    (ChangeSpec.witness6 (enc := enc) (C := Try.checked) false ⟨#[], #[.int .i64 0, .int .i64 0, .slice none 0 0], []⟩ 8 (by kernel_rfl) (by kernel_rfl) (by kernel_rfl) (by kernel_rfl)) ?_
  intro W base args ds gs before hval0 hW hcnd _
  have hval : ∀ (j : Nat) t v, Try.f4.params[j]? = some t → args[j]? = some v → Value.okWide Try.prog W .any base t v := hval0
  have hW' := hW
  obtain ⟨p, q, hA0, hV, rfl, hfz, hnd⟩ := hW
  have hA : DataW.TrodAll enc Try.prog W 0 (fun _ => true) true Try.f4.params.toList args.toList ds p := hA0
  rw [Try.params4] at hA hval
  obtain ⟨v0, vs0, d0, ds0, p0, q0, hargs, rfl, rfl, h0, r0⟩ := trodAll_cons hA
  obtain ⟨v1, vs1, d1, ds1, p1, q1, rfl, rfl, rfl, h1, r1⟩ := trodAll_cons r0
  obtain ⟨v2, vs2, d2, ds2, p2, q2, rfl, rfl, rfl, h2, r2⟩ := trodAll_cons r1
  obtain ⟨rfl, rfl, rfl⟩ := trodAll_nil r2
  obtain rfl : args = #[v0, v1, v2] := by cases args; simp_all
  obtain ⟨rfl, rfl⟩ := trodVars_none hV
  obtain ⟨a0, rfl, rfl, rfl, w0⟩ := open_int Try.underlying3 (hval 0 3 v0 rfl rfl) h0
  obtain ⟨a1, rfl, rfl, rfl, w1⟩ := open_int Try.underlying3 (hval 1 3 v1 rfl rfl) h1
  obtain ⟨a2, len2, cap2, rfl⟩ := okWide_slice Try.underlying40 (hval 2 40 v2 rfl rfl)
  have k2 := h2
  have lt2 : ∀ x ∈ p2, x.block < W.heap.size := by obtain ⟨m, hm⟩ := k2; exact DataW.trod_lt m _ _ _ hm
  obtain ⟨hl, hc, ks, cs, ts, htt, hz⟩ := dos_of h2
  clear hA0 hval0
  refine (plays_walk W a0 a1 a2 len2 cap2 ks cs ts htt hz hl hc).mono fun e W' ⟨he, bel⟩ => ?_
  subst he
  exact ⟨_, rfl, _, _, _, [], _, [], hW', trodAll_mk1 (shut_bool Try.underlying4 _), (trodAll_cons_mk (shut_int Try.underlying3 w0) (trodAll_cons_mk (shut_int Try.underlying3 w1) (trodAll_cons_mk (Below.trod Try.laidOut (by kernel_rfl) (of_decide_eq_true (by kernel_rfl)) k2 bel lt2) trodAll_mk0))), rfl, bel.frame _, fun h => by cases h⟩

theorem plays_holds : Rows.TermPlaysSaid :=
  OpenClaim.holds_of_wide 4 Try.f4 rfl rfl rfl rfl rfl rfl rfl ⟨rfl, rfl, rfl, rfl, rfl⟩ rfl rfl rfl rfl rfl (by kernel_rfl) Try.func4 (by kernel_rfl)
    (of_decide_eq_true (by kernel_rfl)) (by unfold Func.isWrapper; first | (rw [if_pos (by decide +kernel)]; kernel_rfl) | (rw [if_neg (by decide +kernel)]; exact ⟨rfl, rfl⟩))
    (fun os started H enc _ => plays_lifted os started H enc)

end Go.Proofs.Ytnlcnhanhompnaa
