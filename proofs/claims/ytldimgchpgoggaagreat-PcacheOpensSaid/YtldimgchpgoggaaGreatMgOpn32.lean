/- Proved: PcacheOpens returns true and its arguments read as they did. No condition: of all numbers and slots. -/
import Derived.Test.YtldimgchpgoggaaGreatMgOpn31
import Derived.Test.YtldimgchpgoggaaGreatMgOpn20
import Derived.WalkKit
import Derived.Below
import Derived.ProofKit
import Derived.OpenShut
import Derived.ShutString
import Derived.ChangeOld
import Derived.Lib.SmallJoins
/- Proved: PcacheOpens returns true and its arguments read as they did. No condition: of all numbers and slots. -/
namespace Go.Proofs.YtldimgchpgoggaaGreat
open Go.ChangeShapes Go.WideShapes Go.ChangeAt Go.RowKit Go.Tn Go.Joins Go.Tn.Slo




set_option maxRecDepth 100000 in
theorem opens_lifted (os : Os) (started : os.Started) (H : Type) (enc : TypeId × Value → H) :
    ReturnsInHanded {} Tryz.checked os 5 .any (Rows.pcacheOpensSpec.pre6 enc Tryz.prog Tryz.f5 Rows.pcacheOpensRow.domain false) (Rows.pcacheOpensSpec.post enc Tryz.prog Tryz.f5 false true false false) := by
  refine returnsInHanded_of_change (C := Tryz.checked) Tryz.own started (by kernel_rfl) Tryz.func5
    (ChangeSpec.witness6 (enc := enc) (C := Tryz.checked) false ⟨#[], #[.int .i64 0, .int .i64 0, .int .i64 0, .agg #[.bool false, .int .i64 0, .int .i64 0, .int .i64 0, .int .u64 0, .bool false, .string ByteArray.empty]], []⟩ 8 (by kernel_rfl) (by kernel_rfl) (by kernel_rfl) (by kernel_rfl)) ?_
  intro W base args ds gs before hval0 hW hcnd _
  have hval : ∀ (j : Nat) t v, Tryz.f5.params[j]? = some t → args[j]? = some v → Value.okWide Tryz.prog W .any base t v := hval0
  have hW' := hW
  obtain ⟨p, q, hA0, hV, rfl, hfz, hnd⟩ := hW
  have hA : DataW.TrodAll enc Tryz.prog W 0 (fun _ => true) true Tryz.f5.params.toList args.toList ds p := hA0
  rw [Tryz.params5] at hA hval
  obtain ⟨v0, vs0, d0, ds0, p0, q0, hargs, rfl, rfl, h0, r0⟩ := trodAll_cons hA
  obtain ⟨v1, vs1, d1, ds1, p1, q1, rfl, rfl, rfl, h1, r1⟩ := trodAll_cons r0
  obtain ⟨v2, vs2, d2, ds2, p2, q2, rfl, rfl, rfl, h2, r2⟩ := trodAll_cons r1
  obtain ⟨v3, vs3, d3, ds3, p3, q3, rfl, rfl, rfl, h3, r3⟩ := trodAll_cons r2
  obtain ⟨rfl, rfl, rfl⟩ := trodAll_nil r3
  obtain rfl : args = #[v0, v1, v2, v3] := by cases args; simp_all
  obtain ⟨rfl, rfl⟩ := trodVars_none hV
  obtain ⟨a0, rfl, rfl, rfl, w0⟩ := open_int Tryz.underlying3 (hval 0 3 v0 rfl rfl) h0
  obtain ⟨a1, rfl, rfl, rfl, w1⟩ := open_int Tryz.underlying3 (hval 1 3 v1 rfl rfl) h1
  obtain ⟨a2, rfl, rfl, rfl, w2⟩ := open_int Tryz.underlying3 (hval 2 3 v2 rfl rfl) h2
  have k3 := h3
  have lt3 : ∀ x ∈ p3, x.block < W.heap.size := by obtain ⟨m, hm⟩ := k3; exact DataW.trod_lt m _ _ _ hm
  obtain ⟨cs, rfl, hsz⟩ := okWide_struct Tryz.underlying38 (hval 3 38 v3 rfl rfl)
  obtain ⟨fuel, hf⟩ := h3
  obtain ⟨hl, hr⟩ := cellsRead 4 38 [4, 3, 3, 3, 36, 4, 9] fuel cs.toList _ (by kernel_rfl) (by simpa [Value.cells] using hf)
  obtain ⟨l⟩ := cs
  simp only at hr hl
  rcases l with _ | ⟨x0, _ | ⟨x1, _ | ⟨x2, _ | ⟨x3, _ | ⟨x4, _ | ⟨x5, _ | ⟨x6, _ | ⟨x7, l⟩⟩⟩⟩⟩⟩⟩⟩
  all_goals first
    | (exfalso; simp at hl; done)
    | skip
  have g : ∀ (i : Nat) (t : TypeId) (c : Value), [4, 3, 3, 3, 36, 4, 9][i]? = some t → [x0, x1, x2, x3, x4, x5, x6][i]? = some c → CellOk enc Tryz.prog W 0 (fun _ => true) true t c := fun i t c ht hc => by
    obtain ⟨c', n, y, h1, h2⟩ := hr i t ht
    rw [hc] at h1
    cases h1
    exact ⟨n, y, h2⟩
  obtain ⟨u, rfl⟩ := (g 0 4 x0 rfl rfl).bool Tryz.underlying4
  obtain ⟨xi, rfl, b1⟩ := (g 1 3 x1 rfl rfl).int Tryz.underlying3
  obtain ⟨xg, rfl, b2⟩ := (g 2 3 x2 rfl rfl).int Tryz.underlying3
  obtain ⟨xa, rfl, b3⟩ := (g 3 3 x3 rfl rfl).int Tryz.underlying3
  obtain ⟨xv, rfl, b4⟩ := (g 4 36 x4 rfl rfl).int Tryz.underlying36
  obtain ⟨dy, rfl⟩ := (g 5 4 x5 rfl rfl).bool Tryz.underlying4
  obtain ⟨da, rfl, b6⟩ := (g 6 9 x6 rfl rfl).string Tryz.underlying9
  clear hA0 hval0
  have hw := w64_of (u := u) (dy := dy) (s := da) b1 b2 b3 b4
  have hv0 := wf_u64_bounds b4
  obtain ⟨m, rfl⟩ := Int.eq_ofNat_of_zero_le hv0.1
  have hwk := opens_walk W a0 a1 a2 (by have := wf_i64_bounds w1; omega) (by have := wf_i64_bounds w2; omega) ⟨u, (xi, xg, xa), m, dy, da⟩ hw b6
  refine hwk.mono fun e W' ⟨he, bel⟩ => ?_
  subst he
  exact ⟨_, rfl, _, _, _, [], _, [], hW', trodAll_mk1 (shut_bool Tryz.underlying4 _), (trodAll_cons_mk (shut_int Tryz.underlying3 w0) (trodAll_cons_mk (shut_int Tryz.underlying3 w1) (trodAll_cons_mk (shut_int Tryz.underlying3 w2) (trodAll_cons_mk (Below.trod Tryz.laidOut (by kernel_rfl) (of_decide_eq_true (by kernel_rfl)) k3 bel lt3) trodAll_mk0)))), rfl, bel.frame _, fun h => by cases h⟩
theorem opens_holds : Rows.PcacheOpensSaid :=
  OpenClaim.holds_of_wide 5 Tryz.f5 rfl rfl rfl rfl rfl rfl rfl ⟨rfl, rfl, rfl, rfl, rfl⟩ rfl rfl rfl rfl rfl (by kernel_rfl) Tryz.func5 (by kernel_rfl)
    (of_decide_eq_true (by kernel_rfl)) (by unfold Func.isWrapper; first | (rw [if_pos (by decide +kernel)]; kernel_rfl) | (rw [if_neg (by decide +kernel)]; exact ⟨rfl, rfl⟩))
    (fun os started H enc _ => opens_lifted os started H enc)
end Go.Proofs.YtldimgchpgoggaaGreat
