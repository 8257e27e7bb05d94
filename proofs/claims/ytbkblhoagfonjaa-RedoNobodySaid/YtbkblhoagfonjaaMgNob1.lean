/- Proved: RedoNobody returns true and its arguments read as they did. No condition: of all numbers. -/
import Derived.Test.YtbkblhoagfonjaaMgSb21
import Derived.WalkKit
import Derived.Below
import Derived.ProofKit
import Derived.OpenShut
import Derived.ShutString
import Derived.ChangeOld
import Derived.Lib.SmallJoins
/- Where there is no log: what is answered. -/
namespace Go.Proofs.Ytbkblhoagfonjaa
open Go.RowKit Go.Tn Go.Tn.Bt Go.Tn.Lp Go.Tn.Dk
/-- No log: nil, or one that Open did not make. -/
def NoLog (w : World) (po : Option Addr) : Prop := Calls Try.prog 34 #[.pointer po] w fun e w' => e = .returned (.bool false) ∧ w' = w
theorem gread_no {w : World} {po : Option Addr} (h : NoLog w po) (i : Int) : Calls Try.prog 22 #[.pointer po, .int .i64 i] w fun e w' => e = .returned (.tuple #[.slice none 0 0, .int .i64 1]) ∧ w' = w := by
  have hok : Calls Try.prog 34 #[.pointer po] w fun e w' => e = .returned (.bool false) ∧ w' = w := h
  clear h
  go_enter Try.func22, Try.ntmps22
  go_wp2_with (first
    | (go_at_call 34; refine hok.mono ?_; rintro e w2 ⟨rfl, hw⟩; obtain rfl := hw.symm; clear hw)
    | fail)
  go_ret2
  exact ⟨rfl, rfl⟩
theorem gwrite_no {w : World} {po : Option Addr} (h : NoLog w po) (v : Value) : Calls Try.prog 12 #[.pointer po, v] w fun e w' => e = .returned (.int .i64 1) ∧ w' = w := by
  have hok : Calls Try.prog 34 #[.pointer po] w fun e w' => e = .returned (.bool false) ∧ w' = w := h
  clear h
  go_enter Try.func12, Try.ntmps12
  go_wp2_with (first
    | (go_at_call 34; refine hok.mono ?_; rintro e w2 ⟨rfl, hw⟩; obtain rfl := hw.symm; clear hw)
    | fail)
  go_ret
  exact ⟨rfl, rfl⟩
theorem sync_no {w : World} {po : Option Addr} (h : NoLog w po) : Calls Try.prog 21 #[.pointer po] w fun e w' => e = .returned (.int .i64 1) ∧ w' = w := by
  have hok : Calls Try.prog 34 #[.pointer po] w fun e w' => e = .returned (.bool false) ∧ w' = w := h
  clear h
  go_enter Try.func21, Try.ntmps21
  go_wp2_with (first
    | (go_at_call 34; refine hok.mono ?_; rintro e w2 ⟨rfl, hw⟩; obtain rfl := hw.symm; clear hw)
    | fail)
  go_ret
  exact ⟨rfl, rfl⟩
theorem check_no {w : World} {po : Option Addr} (h : NoLog w po) : Calls Try.prog 18 #[.pointer po] w fun e w' => e = .returned (.int .i64 1) ∧ w' = w := by
  have hs := sync_no h
  clear h
  go_enter Try.func18, Try.ntmps18
  go_wp2_with (first
    | (go_at_call 21; refine hs.mono ?_; rintro e w2 ⟨rfl, hw⟩; obtain rfl := hw.symm; clear hw)
    | fail)
  go_ret
  exact ⟨rfl, rfl⟩
theorem homes_no {w : World} {po : Option Addr} (h : NoLog w po) : Calls Try.prog 23 #[.pointer po] w fun e w' => e = .returned (.int .i64 0) ∧ w' = w := by
  have hok : Calls Try.prog 34 #[.pointer po] w fun e w' => e = .returned (.bool false) ∧ w' = w := h
  clear h
  go_enter Try.func23, Try.ntmps23
  go_wp2_with (first
    | (go_at_call 34; refine hok.mono ?_; rintro e w2 ⟨rfl, hw⟩; obtain rfl := hw.symm; clear hw)
    | fail)
  go_ret
  exact ⟨rfl, rfl⟩
theorem free_no {w : World} {po : Option Addr} (h : NoLog w po) : Calls Try.prog 14 #[.pointer po] w fun e w' => e = .returned (.int .i64 0) ∧ w' = w := by
  have hok : Calls Try.prog 34 #[.pointer po] w fun e w' => e = .returned (.bool false) ∧ w' = w := h
  clear h
  go_enter Try.func14, Try.ntmps14
  go_wp2_with (first
    | (go_at_call 34; refine hok.mono ?_; rintro e w2 ⟨rfl, hw⟩; obtain rfl := hw.symm; clear hw)
    | fail)
  go_ret
  exact ⟨rfl, rfl⟩
theorem noLog_nil (w : World) : NoLog w none := ok_nil w
theorem noLog_zero (w : World) (g : Nat) (hc : w.cell? ⟨g, 0, none⟩ = some (.pointer none)) : NoLog w (some ⟨g, 0, none⟩) := ok_zero w g hc
end Go.Proofs.Ytbkblhoagfonjaa

/- RedoNobody, walked. -/
namespace Go.Proofs.Ytbkblhoagfonjaa
open Go.RowKit Go.Tn Go.Tn.Bt Go.Tn.Lp Go.Tn.Dk
set_option maxRecDepth 20000 in
set_option maxHeartbeats 4000000 in
theorem nobody_walk (w : World) (i n : Int) : Calls Try.prog 5 #[.int .i64 i, .int .i64 n] w fun e w' => e = .returned (.bool true) ∧ Below w.heap.size w w' := by
  go_enter Try.func5, Try.ntmps5
  go_wp2_with fail
  go_loopw [5] (fun kv wi => ∃ k : Nat, k ≤ 2 ∧ kv = .int .i64 k ∧ Below w.heap.size w wi) (fun kv _ => 2 - (intOf kv).toNat)
  case atStart => exact ⟨0, by omega, rfl, Below.refl _ _⟩
  case round =>
    obtain ⟨k, hk, rfl, hb⟩ := hrel
    have HB := Lib.hid hb
    clear hb
    by_cases h0 : k = 0
    · subst h0
      clear hk
      rw [show ((0 : Nat) : Int) = 0 from rfl]
      go_wp2_with (first
        | (go_at_call 22; refine (gread_no (noLog_nil _) _).mono ?_; rintro e w2 ⟨rfl, hw⟩; obtain rfl := hw.symm; clear hw)
        | (go_at_call 12; refine (gwrite_no (noLog_nil _) _).mono ?_; rintro e w2 ⟨rfl, hw⟩; obtain rfl := hw.symm; clear hw)
        | (go_at_call 21; refine (sync_no (noLog_nil _)).mono ?_; rintro e w2 ⟨rfl, hw⟩; obtain rfl := hw.symm; clear hw)
        | (go_at_call 18; refine (check_no (noLog_nil _)).mono ?_; rintro e w2 ⟨rfl, hw⟩; obtain rfl := hw.symm; clear hw)
        | (go_at_call 23; refine (homes_no (noLog_nil _)).mono ?_; rintro e w2 ⟨rfl, hw⟩; obtain rfl := hw.symm; clear hw)
        | (go_at_call 14; refine (free_no (noLog_nil _)).mono ?_; rintro e w2 ⟨rfl, hw⟩; obtain rfl := hw.symm; clear hw)
        | fail)
      go_roundw
      case rel => exact ⟨1, by omega, rfl, HB.out⟩
      case measure => simp [intOf]
    · by_cases h1 : k = 1
      · subst h1
        clear hk h0
        rw [show ((1 : Nat) : Int) = 1 from rfl]
        obtain ⟨w2, hw2⟩ : ∃ w2, wr.alloc (.cells #[.pointer none, .int .i64 0, .int .u64 0, .int .u64 0, .int .u64 0, .int .u64 0, .map none, .int .i64 0] 54) = w2 := ⟨_, rfl⟩
        have hc : w2.cell? ⟨wr.heap.size, 0, none⟩ = some (.pointer none) := by rw [← hw2]; exact cell_of (o := 0) heap_alloc_at rfl
        have hN : NoLog w2 (some ⟨wr.heap.size, 0, none⟩) := noLog_zero w2 _ hc
        have hB2 : Below w.heap.size w w2 := by rw [← hw2]; exact HB.out.alloc HB.out.size _
        have HN := Lib.hid hN
        have HB2 := Lib.hid hB2
        clear hc hN hB2
        go_upto_region 7 with fail
        clear hw2
        go_wp2_with (first
          | (go_at_call 22; refine (gread_no HN.out _).mono ?_; rintro e w2 ⟨rfl, hw⟩; obtain rfl := hw.symm; clear hw)
          | (go_at_call 12; refine (gwrite_no HN.out _).mono ?_; rintro e w2 ⟨rfl, hw⟩; obtain rfl := hw.symm; clear hw)
          | (go_at_call 21; refine (sync_no HN.out).mono ?_; rintro e w2 ⟨rfl, hw⟩; obtain rfl := hw.symm; clear hw)
          | (go_at_call 18; refine (check_no HN.out).mono ?_; rintro e w2 ⟨rfl, hw⟩; obtain rfl := hw.symm; clear hw)
          | (go_at_call 23; refine (homes_no HN.out).mono ?_; rintro e w2 ⟨rfl, hw⟩; obtain rfl := hw.symm; clear hw)
          | (go_at_call 14; refine (free_no HN.out).mono ?_; rintro e w2 ⟨rfl, hw⟩; obtain rfl := hw.symm; clear hw)
          | fail)
        go_roundw
        case rel => exact ⟨2, by omega, rfl, HB2.out⟩
        case measure => simp [intOf]
      · obtain rfl : k = 2 := by omega
        clear hk h0 h1
        rw [show ((2 : Nat) : Int) = 2 from rfl]
        go_wp2_with (first
          | (go_at_call 9; refine (open_nil _ _).mono ?_; rintro e w2 ⟨rfl, hw⟩; obtain rfl := hw.symm; clear hw)
          | (go_at_call 16; refine (lives_any _).mono ?_; rintro e w5 ⟨rfl, hb5⟩; have HB5 := Lib.hid (HB.out.trans (hb5.mono HB.out.size)); clear hb5)
          | fail)
        go_ret
        exact ⟨rfl, HB5.out⟩
end Go.Proofs.Ytbkblhoagfonjaa

/- Proved: RedoNobody returns true and its arguments read as they did. No condition: of all numbers. -/
namespace Go.Proofs.Ytbkblhoagfonjaa
open Go.ChangeShapes Go.WideShapes Go.ChangeAt Go.RowKit Go.Tn Go.Joins

theorem Try.own : ownKnob Try.prog.godebug = none := by kernel_rfl
theorem Try.laidOut : laidOutB Try.prog = true := by kernel_rfl

set_option maxRecDepth 100000 in
theorem nobody_lifted (os : Os) (started : os.Started) (H : Type) (enc : TypeId × Value → H) :
    ReturnsInHanded {} Try.checked os 5 .any (Rows.redoNobodySpec.pre6 enc Try.prog Try.f5 Rows.redoNobodyRow.domain false) (Rows.redoNobodySpec.post enc Try.prog Try.f5 false true false false) := by
  refine returnsInHanded_of_change (C := Try.checked) Try.own started (by kernel_rfl) Try.func5
    (ChangeSpec.witness6 (enc := enc) (C := Try.checked) false ⟨#[], #[.int .i64 0, .int .i64 0], []⟩ 8 (by kernel_rfl) (by kernel_rfl) (by kernel_rfl) (by kernel_rfl)) ?_
  intro W base args ds gs before hval0 hW hcnd _
  have hval : ∀ (j : Nat) t v, Try.f5.params[j]? = some t → args[j]? = some v → Value.okWide Try.prog W .any base t v := hval0
  have hW' := hW
  obtain ⟨p, q, hA0, hV, rfl, hfz, hnd⟩ := hW
  have hA : DataW.TrodAll enc Try.prog W 0 (fun _ => true) true Try.f5.params.toList args.toList ds p := hA0
  rw [Try.params5] at hA hval
  obtain ⟨v0, vs0, d0, ds0, p0, q0, hargs, rfl, rfl, h0, r0⟩ := trodAll_cons hA
  obtain ⟨v1, vs1, d1, ds1, p1, q1, rfl, rfl, rfl, h1, r1⟩ := trodAll_cons r0
  obtain ⟨rfl, rfl, rfl⟩ := trodAll_nil r1
  obtain rfl : args = #[v0, v1] := by cases args; simp_all
  obtain ⟨rfl, rfl⟩ := trodVars_none hV
  obtain ⟨a0, rfl, rfl, rfl, w0⟩ := open_int Try.underlying3 (hval 0 3 v0 rfl rfl) h0
  obtain ⟨a1, rfl, rfl, rfl, w1⟩ := open_int Try.underlying3 (hval 1 3 v1 rfl rfl) h1
  clear hA0 hval0
  refine (nobody_walk W a0 a1).mono fun e W' ⟨he, bel⟩ => ?_
  subst he
  exact ⟨_, rfl, _, _, _, [], _, [], hW', trodAll_mk1 (shut_bool Try.underlying4 _), (trodAll_cons_mk (shut_int Try.underlying3 w0) (trodAll_cons_mk (shut_int Try.underlying3 w1) trodAll_mk0)), rfl, bel.frame _, fun h => by cases h⟩

theorem nobody_holds : Rows.RedoNobodySaid :=
  OpenClaim.holds_of_wide 5 Try.f5 rfl rfl rfl rfl rfl rfl rfl ⟨rfl, rfl, rfl, rfl, rfl⟩ rfl rfl rfl rfl rfl (by kernel_rfl) Try.func5 (by kernel_rfl)
    (of_decide_eq_true (by kernel_rfl)) (by unfold Func.isWrapper; first | (rw [if_pos (by decide +kernel)]; kernel_rfl) | (rw [if_neg (by decide +kernel)]; exact ⟨rfl, rfl⟩))
    (fun os started H enc _ => nobody_lifted os started H enc)

end Go.Proofs.Ytbkblhoagfonjaa
