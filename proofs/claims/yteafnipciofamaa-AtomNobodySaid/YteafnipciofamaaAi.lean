/- Proved: AtomNobody returns true and its argument reads as it did. No condition: of every call. -/
import Derived.Test.YteafnipciofamaaAh
import Derived.WalkKit
import Derived.Below
import Derived.ProofKit
import Derived.OpenShut
import Derived.ShutString
import Derived.ChangeOld
import Derived.Lib.SmallJoins
namespace Go.Proofs.Yteafnipciofamaa
open Go.ChangeShapes Go.WideShapes Go.ChangeAt Go.RowKit Go.Tn Go.Joins

theorem Try.own : ownKnob Try.prog.godebug = none := by kernel_rfl
theorem Try.laidOut : laidOutB Try.prog = true := by kernel_rfl
theorem cellsC : Try.prog.cellsOf 25 = 9 := by kernel_rfl

set_option maxRecDepth 100000 in
theorem nobody_lifted (os : Os) (started : os.Started) (H : Type) (enc : TypeId × Value → H) :
    ReturnsInHanded {} Try.checked os 3 .any (Rows.atomNobodySpec.pre6 enc Try.prog Try.f3 Rows.atomNobodyRow.domain false) (Rows.atomNobodySpec.post enc Try.prog Try.f3 false true false false) := by
  refine returnsInHanded_of_change (C := Try.checked) Try.own started (by kernel_rfl) Try.func3
    (ChangeSpec.witness6 (enc := enc) (C := Try.checked) false ⟨#[], #[.agg #[.int .i64 0, .int .i64 0, .int .i64 0, .int .i64 0, .int .i64 0, .string ByteArray.empty, .string ByteArray.empty, .int .i64 0, .string ByteArray.empty]], []⟩ 8 (by kernel_rfl) (by kernel_rfl) (by kernel_rfl) (by kernel_rfl)) ?_
  intro W base args ds gs before hval0 hW hcnd _
  have hval : ∀ (j : Nat) t v, Try.f3.params[j]? = some t → args[j]? = some v → Value.okWide Try.prog W .any base t v := hval0
  have hW' := hW
  obtain ⟨p, q, hA0, hV, rfl, hfz, hnd⟩ := hW
  have hA : DataW.TrodAll enc Try.prog W 0 (fun _ => true) true Try.f3.params.toList args.toList ds p := hA0
  rw [Try.params3] at hA hval
  obtain ⟨v0, vs0, d0, ds0, p0, q0, hargs, rfl, rfl, h0, r0⟩ := trodAll_cons hA
  obtain ⟨rfl, rfl, rfl⟩ := trodAll_nil r0
  obtain rfl : args = #[v0] := by cases args; simp_all
  obtain ⟨rfl, rfl⟩ := trodVars_none hV
  have k0 := h0
  have lt0 : ∀ x ∈ p0, x.block < W.heap.size := by obtain ⟨m, hm⟩ := k0; exact DataW.trod_lt m _ _ _ hm
  obtain ⟨cs, rfl, hsz⟩ := okWide_struct Try.underlying25 (hval 0 25 v0 rfl rfl)
  obtain ⟨fuel, hf⟩ := h0
  obtain ⟨hl, hr⟩ := cellsRead 4 25 [3, 3, 3, 3, 3, 9, 9, 3, 9] fuel cs.toList _ (by kernel_rfl) (by simpa [Value.cells] using hf)
  obtain ⟨l⟩ := cs
  simp only at hr hl
  rcases l with _ | ⟨x0, _ | ⟨x1, _ | ⟨x2, _ | ⟨x3, _ | ⟨x4, _ | ⟨x5, _ | ⟨x6, _ | ⟨x7, _ | ⟨x8, _ | ⟨x9, l⟩⟩⟩⟩⟩⟩⟩⟩⟩⟩
  all_goals first
    | (exfalso; simp at hl; done)
    | skip
  have g : ∀ (i : Nat) (t : TypeId) (c : Value), [3, 3, 3, 3, 3, 9, 9, 3, 9][i]? = some t → [x0, x1, x2, x3, x4, x5, x6, x7, x8][i]? = some c → CellOk enc Try.prog W 0 (fun _ => true) true t c := fun i t c ht hc => by
    obtain ⟨c', n, y, h1, h2⟩ := hr i t ht
    rw [hc] at h1
    cases h1
    exact ⟨n, y, h2⟩
  obtain ⟨k, rfl, _⟩ := (g 0 3 x0 rfl rfl).int Try.underlying3
  obtain ⟨fi, rfl, _⟩ := (g 1 3 x1 rfl rfl).int Try.underlying3
  obtain ⟨fg, rfl, _⟩ := (g 2 3 x2 rfl rfl).int Try.underlying3
  obtain ⟨di, rfl, _⟩ := (g 3 3 x3 rfl rfl).int Try.underlying3
  obtain ⟨dg, rfl, _⟩ := (g 4 3 x4 rfl rfl).int Try.underlying3
  obtain ⟨nm, rfl, w5⟩ := (g 5 9 x5 rfl rfl).string Try.underlying9
  obtain ⟨ot, rfl, w6⟩ := (g 6 9 x6 rfl rfl).string Try.underlying9
  obtain ⟨at_, rfl, _⟩ := (g 7 3 x7 rfl rfl).int Try.underlying3
  obtain ⟨da, rfl, w8⟩ := (g 8 9 x8 rfl rfl).string Try.underlying9
  clear hA0 hval0
  refine (nobody_walk W k fi fg di dg nm ot at_ da w5 w6 w8).mono fun e W' ⟨he, bel⟩ => ?_
  subst he
  exact ⟨_, rfl, _, _, _, [], _, [], hW', trodAll_mk1 (shut_bool Try.underlying4 _), (trodAll_cons_mk (Below.trod Try.laidOut (by kernel_rfl) (of_decide_eq_true (by kernel_rfl)) k0 bel lt0) trodAll_mk0), rfl, bel.frame _, fun h => by cases h⟩

theorem nobody_holds : Rows.AtomNobodySaid :=
  OpenClaim.holds_of_wide 3 Try.f3 rfl rfl rfl rfl rfl rfl rfl ⟨rfl, rfl, rfl, rfl, rfl⟩ rfl rfl rfl rfl rfl (by kernel_rfl) Try.func3 (by kernel_rfl)
    (of_decide_eq_true (by kernel_rfl)) (by unfold Func.isWrapper; first | (rw [if_pos (by decide +kernel)]; kernel_rfl) | (rw [if_neg (by decide +kernel)]; exact ⟨rfl, rfl⟩))
    (fun os started H enc _ => nobody_lifted os started H enc)

end Go.Proofs.Yteafnipciofamaa
