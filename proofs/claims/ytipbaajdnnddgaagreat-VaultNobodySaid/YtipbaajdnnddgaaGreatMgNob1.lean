/- Proved: VaultNobody returns true and its arguments read as they did. No condition: of all numbers. -/
import Derived.Test.YtipbaajdnnddgaaGreatRows
import Derived.Below
import Derived.WalkKit
import Derived.ProofKit
import Derived.ChangeOld
import Derived.Test.YtipbaajdnnddgaaGreatMgVlj33
import Derived.OpenShut
import Derived.ShutString
import Derived.Lib.SmallJoins
/- The rows, and the program's knob. -/
namespace Go.Proofs.YtipbaajdnnddgaaGreat
open Go.RowKit
theorem Tryz.own : ownKnob Tryz.prog.godebug = none := by kernel_rfl
theorem Tryz.laidOut : laidOutB Tryz.prog = true := by kernel_rfl
end Go.Proofs.YtipbaajdnnddgaaGreat

/- A vault that no call made: plain contracts. -/
namespace Go.Proofs.YtipbaajdnnddgaaGreat
open Go.RowKit Go.Tn Go.Tn.Bt Go.Tn.Lp Go.Tn.Dk Go.Tn.Ino
section
variable {w : World} {FD : Nat → Prop} {p : Nat}
/-- redo.Open of a small new disk, of any number. -/
theorem gopen_new (hd : DAt w FD p (newD 30)) (n : Int) : Calls Tryz.prog 30 #[.pointer (some ⟨p, 0, none⟩), .int .i64 n] w fun e w' => ∃ g en, e = .returned (.tuple #[.pointer g, .int .i64 en]) ∧ Below w.heap.size w w' := by
  have hL : (newD 30).L.length = 30 := by simp [newD]
  by_cases hn : n < 2 ∨ ((newD 30).L.length : Int) - 3 < n
  · refine (open_arg hd n hn).mono ?_
    rintro e w' ⟨rfl, rfl⟩
    exact ⟨_, _, rfl, Below.refl _ _⟩
  · rw [hL] at hn
    obtain ⟨k, rfl⟩ := Int.eq_ofNat_of_zero_le (show 0 ≤ n by omega)
    have h1 : 2 ≤ k := by omega
    have h2 : k ≤ 27 := by omega
    refine (open_main hd k h1 (by rw [hL]; omega) (by omega) (by rw [newest_zero _ _ (by omega)]; decide) _ (open_new h1 (by omega))).mono ?_
    rintro e w' ⟨g, F, rfl, -, hb, -⟩
    exact ⟨_, _, rfl, hb⟩
set_option maxRecDepth 20000 in
set_option maxHeartbeats 4000000 in
theorem fopen_small (hd : DAt w FD p (newD 30)) (n : Int) (hn : -9223372036854775808 ≤ n ∧ n < 9223372036854775808) : Calls Tryz.prog 19 #[.pointer (some ⟨p, 0, none⟩), .int .i64 n] w fun e w' => e = .returned (.tuple #[.pointer none, .int .i64 2]) ∧ Below w.heap.size w w' := by
  have hop := gopen_new hd n
  have hL : (newD 30).L.length = 30 := by simp [newD]
  have hsz := fun w' (h : DAt w' FD p (newD 30)) => size_any h
  rw [hL] at hsz
  have HD := Lib.hid hd
  have HSZ := Lib.hid hsz
  have hn1 := hn.1
  have hn2 := hn.2
  clear hd hL hsz hn
  by_cases h20 : n < 20
  · go_enter Tryz.func19, Tryz.ntmps19
    go_wp2_with fail
    refine hop.mono ?_
    rintro e w2 ⟨g, en, rfl, hb2⟩
    have hs2 := HSZ.out _ (HD.out.below hb2)
    have HB2 := Lib.hid hb2
    clear hop hb2
    go_wp2_with (first
      | (go_at_call 26; refine hs2.mono ?_; rintro e wt ⟨rfl, hw⟩; obtain rfl := hw.symm; clear hw)
      | fail)
    go_ret2
    exact ⟨rfl, HB2.out⟩
  · have h46 : (30 : Int) - n - 2 < 46 := by omega
    go_enter Tryz.func19, Tryz.ntmps19
    go_wp2_with fail
    refine hop.mono ?_
    rintro e w2 ⟨g, en, rfl, hb2⟩
    have hs2 := HSZ.out _ (HD.out.below hb2)
    have HB2 := Lib.hid hb2
    clear hop hb2
    go_wp2_with (first
      | (go_at_call 26; refine hs2.mono ?_; rintro e wt ⟨rfl, hw⟩; obtain rfl := hw.symm; clear hw)
      | fail)
    go_ret2
    exact ⟨rfl, HB2.out⟩
theorem nsize_nil (w : World) : Calls Tryz.prog 26 #[.pointer none] w fun e w' => e = .returned (.int .i64 0) ∧ w' = w := by
  go_enter Tryz.func26, Tryz.ntmps26
  go_wp2
  go_ret
  exact ⟨rfl, rfl⟩
set_option maxRecDepth 20000 in
theorem fopen_nil (w : World) (n : Int) : Calls Tryz.prog 19 #[.pointer none, .int .i64 n] w fun e w' => e = .returned (.tuple #[.pointer none, .int .i64 1]) ∧ w' = w := by
  go_enter Tryz.func19, Tryz.ntmps19
  go_wp2_with (first
    | (go_at_call 30; refine (open_nil _ _).mono ?_; rintro e w2 ⟨rfl, hw⟩; obtain rfl := hw.symm; clear hw)
    | (go_at_call 26; refine (nsize_nil _).mono ?_; rintro e wt ⟨rfl, hw⟩; obtain rfl := hw.symm; clear hw)
    | fail)
  go_ret2
  exact ⟨rfl, rfl⟩
set_option maxRecDepth 20000 in
theorem vopen_small (hd : DAt w FD p (newD 30)) (n : Int) (hn : -9223372036854775808 ≤ n ∧ n < 9223372036854775808) : Calls Tryz.prog 7 #[.pointer (some ⟨p, 0, none⟩), .int .i64 n] w fun e w' => e = .returned (.tuple #[.pointer none, .int .i64 2]) ∧ Below w.heap.size w w' := by
  have hop := fopen_small hd n hn
  clear hd hn
  go_enter Tryz.func7, Tryz.ntmps7
  go_wp2_with fail
  refine hop.mono ?_
  rintro e w2 ⟨rfl, hb2⟩
  have HB2 := Lib.hid hb2
  clear hop hb2
  go_wp2
  go_ret2
  exact ⟨rfl, HB2.out⟩
set_option maxRecDepth 20000 in
theorem vopen_nil (w : World) (n : Int) : Calls Tryz.prog 7 #[.pointer none, .int .i64 n] w fun e w' => e = .returned (.tuple #[.pointer none, .int .i64 1]) ∧ w' = w := by
  go_enter Tryz.func7, Tryz.ntmps7
  go_wp2_with (first
    | (go_at_call 19; refine (fopen_nil _ _).mono ?_; rintro e w2 ⟨rfl, hw⟩; obtain rfl := hw.symm; clear hw)
    | fail)
  go_ret2
  exact ⟨rfl, rfl⟩
end
/-- No vault. -/
def NoV (w : World) (a : Option Addr) : Prop := ∀ w', Below w.heap.size w w' → Calls Tryz.prog 23 #[.pointer a] w' fun e w'' => e = .returned (.bool false) ∧ w'' = w'
theorem NoV.below {w w' : World} {a : Option Addr} (h : NoV w a) (hb : Below w.heap.size w w') : NoV w' a := fun w2 h2 => h w2 (hb.trans (h2.mono hb.size))
theorem noV_nil (w : World) : NoV w none := fun w' _ => by
  go_enter Tryz.func23, Tryz.ntmps23
  go_wp2
  go_ret
  exact ⟨rfl, rfl⟩
theorem noV_zero (w : World) (b : Nat) (hc : w.cell? ⟨b, 0, none⟩ = some (.pointer none)) : NoV w (some ⟨b, 0, none⟩) := fun w' hb => by
  have hc' := (hb.cell (p := ⟨b, 0, none⟩) (World.block_lt_of_cell? w _ hc)).trans hc
  clear hc hb
  go_enter Tryz.func23, Tryz.ntmps23
  go_wp2
  go_ret
  exact ⟨rfl, rfl⟩
section
variable {w : World} {a : Option Addr}
theorem vstore_no (h : NoV w a) : Calls Tryz.prog 12 #[.pointer a] w fun e w' => e = .returned (.pointer none) ∧ w' = w := by
  have h0 := h w (Below.refl _ _)
  clear h
  go_enter Tryz.func12, Tryz.ntmps12
  go_wp2_with (first
    | (go_at_call 23; refine h0.mono ?_; rintro e wt ⟨rfl, hw⟩; obtain rfl := hw.symm; clear hw)
    | fail)
  go_ret
  exact ⟨rfl, rfl⟩
set_option maxRecDepth 20000 in
set_option maxHeartbeats 2000000 in
theorem vrecord_no (h : NoV w a) : Calls Tryz.prog 8 #[.pointer a] w fun e w' => e = .returned (.agg (recC Rec.zero)) ∧ Below w.heap.size w w' := by
  have hbz : (w.alloc (.cells (recC Rec.zero) 35)).heap[w.heap.size]? = some (.cells (recC Rec.zero) 35 (0, 0)) := heap_alloc_at
  have hb1 : Below w.heap.size w (w.alloc (.cells (recC Rec.zero) 35)) := (Below.refl _ _).alloc (Nat.le_refl _) _
  have hok := h _ hb1
  have hag := aggR (x := Rec.zero) rfl
  have hone := recC_one Rec.zero
  have hbr := built_rz
  generalize hw1 : w.alloc (.cells (recC Rec.zero) 35) = w1 at hbz hb1 hok
  rw [recC_z] at hw1
  have HB1 := Lib.hid hb1
  clear h hb1
  go_enter Tryz.func8, Tryz.ntmps8
  go_upto_region 1 with fail
  clear hw1
  go_wp2_with (first
    | (go_at_call 23; refine hok.mono ?_; rintro e wt ⟨rfl, hw⟩; obtain rfl := hw.symm; clear hw)
    | ((with_reducible refine wpList_exec rfl (exec_buildA (vals := []) ?_ hbr) ?_); rfl; go_frame)
    | ((with_reducible refine wpList_storeB hag ?_ ?_ hbz rfl hone ?_); rfl; rfl; (intro w9 hh9 hm9; have HH9 := Lib.hid hh9; have HM9 := Lib.hid hm9; clear hh9 hm9); go_frame)
    | fail)
  refine bodyPost_ret (results_cellA rfl _ rfl hag (lies_of HH9.out)) rfl ?_
  exact ⟨rfl, HB1.out.trans (HM9.out.below HB1.out.size fun x hx e => by omega)⟩
set_option maxRecDepth 20000 in
theorem vboot_no (h : NoV w a) : Calls Tryz.prog 13 #[.pointer a] w fun e w' => e = .returned (.int .u64 0) ∧ Below w.heap.size w w' := by
  have hr := vrecord_no h
  have h0 := fieldB Rec.zero
  clear h
  go_enter Tryz.func13, Tryz.ntmps13
  go_wp2_with fail
  refine hr.mono ?_
  rintro e w2 ⟨rfl, hb⟩
  have HB := Lib.hid hb
  clear hr hb
  go_wp2
  go_ret
  exact ⟨rfl, HB.out⟩
theorem vsetsession_nov (h : NoV w a) (c k : Int) : Calls Tryz.prog 9 #[.pointer a, .int .i64 c, .int .u64 k] w fun e w' => e = .returned (.int .i64 1) ∧ w' = w := by
  have h0 := h w (Below.refl _ _)
  clear h
  go_enter Tryz.func9, Tryz.ntmps9
  go_wp2_with (first
    | (go_at_call 23; refine h0.mono ?_; rintro e wt ⟨rfl, hw⟩; obtain rfl := hw.symm; clear hw)
    | fail)
  go_ret
  exact ⟨rfl, rfl⟩
theorem vsetholds_nov (h : NoV w a) (c : Int) (b : Bool) : Calls Tryz.prog 10 #[.pointer a, .int .i64 c, .bool b] w fun e w' => e = .returned (.int .i64 1) ∧ w' = w := by
  have h0 := h w (Below.refl _ _)
  clear h
  go_enter Tryz.func10, Tryz.ntmps10
  go_wp2_with (first
    | (go_at_call 23; refine h0.mono ?_; rintro e wt ⟨rfl, hw⟩; obtain rfl := hw.symm; clear hw)
    | fail)
  go_ret
  exact ⟨rfl, rfl⟩
end
end Go.Proofs.YtipbaajdnnddgaaGreat

/- VaultNobody: walked. -/
namespace Go.Proofs.YtipbaajdnnddgaaGreat
open Go.RowKit Go.Tn Go.Tn.Bt Go.Tn.Lp Go.Tn.Dk Go.Tn.Ino
theorem eqRz (w : World) : (Op.equalIn 10000 35 (.agg (recC Rec.zero)) (.agg (recC Rec.zero))).run Tryz.prog w = .ok true w := by kernel_rfl
def vltN : Array Value := (.pointer none :: recL Rec.zero).toArray
theorem built_vn : Tryz.prog.built 46 [] = some vltN := by kernel_rfl
set_option maxRecDepth 20000 in
set_option maxHeartbeats 4000000 in
theorem vnobody_walk (w : World) (n c : Int) (hn : -9223372036854775808 ≤ n ∧ n < 9223372036854775808) : Calls Tryz.prog 4 #[.int .i64 n, .int .i64 c] w fun e w' => e = .returned (.bool true) ∧ Below w.heap.size w w' := by
  have hnw := newd_any w 30 (by decide) (by decide)
  rw [show ((30 : Nat) : Int) = 30 from rfl] at hnw
  have hgt : Tryz.prog.eqGuardType Tryz.prog.depth 35 = false := by kernel_rfl
  have HN := Lib.hid hn
  have hbr := built_rz
  have heq := eqRz
  have hbv := built_vn
  clear hn
  go_enter Tryz.func4, Tryz.ntmps4
  go_wp2_with fail
  refine hnw.mono ?_
  rintro e w1 ⟨p, FD, rfl, hD, hb1, hF⟩
  have hop := vopen_small hD n HN.out
  have HB1 := Lib.hid hb1
  clear hnw hD hb1 hF
  go_wp2_with fail
  refine hop.mono ?_
  rintro e w2 ⟨rfl, hb2⟩
  have HB2 := Lib.hid (HB1.out.trans (hb2.mono HB1.out.size))
  clear hop hb2
  go_wp2_with (first
    | (go_at_call 7; refine (vopen_nil _ _).mono ?_; rintro e wt ⟨rfl, hw⟩; obtain rfl := hw.symm; clear hw)
    | fail)
  go_loopw [11] (fun kv wi => ∃ k : Nat, k ≤ 2 ∧ kv = .int .i64 k ∧ Below w.heap.size w wi) (fun kv _ => 2 - (intOf kv).toNat)
  case atStart => exact ⟨0, by omega, rfl, HB2.out⟩
  case round =>
    obtain ⟨k, hk, rfl, hb⟩ := hrel
    have HB := Lib.hid hb
    clear hb
    by_cases h0 : k = 0
    · subst h0
      clear hk
      rw [show ((0 : Nat) : Int) = 0 from rfl]
      have hN := noV_nil wr
      have HNV := Lib.hid hN
      clear hN
      go_upto_region 12 with fail
      go_wp2_with (first
        | (go_at_call 12; refine (vstore_no HNV.out).mono ?_; rintro e w3 ⟨rfl, hw⟩; obtain rfl := hw.symm; clear hw)
        | (go_at_call 8; refine (vrecord_no HNV.out).mono ?_; rintro e w3 ⟨rfl, hb⟩; have HN3 := Lib.hid (HNV.out.below hb); have HB3 := Lib.hid (HB.out.trans (hb.mono HB.out.size)); clear hb)
        | (go_at_call 13; refine (vboot_no HN3.out).mono ?_; rintro e w4 ⟨rfl, hb⟩; have HN4 := Lib.hid (HN3.out.below hb); have HB4 := Lib.hid (HB3.out.trans (hb.mono HB3.out.size)); clear hb)
        | (go_at_call 9; refine (vsetsession_nov HN4.out _ _).mono ?_; rintro e w3 ⟨rfl, hw⟩; obtain rfl := hw.symm; clear hw)
        | (go_at_call 10; refine (vsetholds_nov HN4.out _ _).mono ?_; rintro e w3 ⟨rfl, hw⟩; obtain rfl := hw.symm; clear hw)
        | ((with_reducible refine wpList_execW (exec_buildA (vals := []) ?_ hbr) ?_ ?_); rfl; rfl; go_frame)
        | ((with_reducible refine wpList_execW (exec_neqS hgt heq ?_ ?_ _) ?_ ?_); rfl; rfl; rfl; go_frame)
        | fail)
      go_roundw
      case rel => exact ⟨1, by omega, rfl, HB4.out⟩
      case measure => simp [intOf]
    · by_cases h1 : k = 1
      · subst h1
        clear hk h0
        rw [show ((1 : Nat) : Int) = 1 from rfl]
        have hc : (wr.alloc (.cells vltN 46)).cell? ⟨wr.heap.size, 0, none⟩ = some (.pointer none) := cell_of (o := 0) heap_alloc_at rfl
        have hN := noV_zero _ _ hc
        have hB2 : Below w.heap.size w (wr.alloc (.cells vltN 46)) := HB.out.alloc HB.out.size _
        have HNV := Lib.hid hN
        have HB := Lib.hid hB2
        clear hc hN hB2
        go_upto_region 12 with (first
          | ((with_reducible refine wpList_exec rfl (exec_buildA (vals := []) ?_ hbv) ?_); rfl; go_frame)
          | fail)
        generalize wr.alloc (.cells vltN 46) = w2 at *
        generalize wr.heap.size = vb at *
        go_wp2_with (first
          | (go_at_call 12; refine (vstore_no HNV.out).mono ?_; rintro e w3 ⟨rfl, hw⟩; obtain rfl := hw.symm; clear hw)
          | (go_at_call 8; refine (vrecord_no HNV.out).mono ?_; rintro e w3 ⟨rfl, hb⟩; have HN3 := Lib.hid (HNV.out.below hb); have HB3 := Lib.hid (HB.out.trans (hb.mono HB.out.size)); clear hb)
          | (go_at_call 13; refine (vboot_no HN3.out).mono ?_; rintro e w4 ⟨rfl, hb⟩; have HN4 := Lib.hid (HN3.out.below hb); have HB4 := Lib.hid (HB3.out.trans (hb.mono HB3.out.size)); clear hb)
          | (go_at_call 9; refine (vsetsession_nov HN4.out _ _).mono ?_; rintro e w3 ⟨rfl, hw⟩; obtain rfl := hw.symm; clear hw)
          | (go_at_call 10; refine (vsetholds_nov HN4.out _ _).mono ?_; rintro e w3 ⟨rfl, hw⟩; obtain rfl := hw.symm; clear hw)
          | ((with_reducible refine wpList_execW (exec_buildA (vals := []) ?_ hbr) ?_ ?_); rfl; rfl; go_frame)
          | ((with_reducible refine wpList_execW (exec_neqS hgt heq ?_ ?_ _) ?_ ?_); rfl; rfl; rfl; go_frame)
          | fail)
        go_roundw
        case rel => exact ⟨2, by omega, rfl, HB4.out⟩
        case measure => simp [intOf]
      · obtain rfl : k = 2 := by omega
        clear hk h0 h1
        rw [show ((2 : Nat) : Int) = 2 from rfl]
        go_wp2_with (first
          | (go_at_call 11; refine (lives_any _).mono ?_; rintro e w8 ⟨rfl, hb8⟩; have HB8 := Lib.hid (HB.out.trans (hb8.mono HB.out.size)); clear hb8)
          | fail)
        go_ret
        exact ⟨rfl, HB8.out⟩
end Go.Proofs.YtipbaajdnnddgaaGreat

/- Proved: VaultNobody returns true and its arguments read as they did. No condition: of all numbers. -/
namespace Go.Proofs.YtipbaajdnnddgaaGreat
open Go.ChangeShapes Go.WideShapes Go.ChangeAt Go.RowKit Go.Tn Go.Joins




set_option maxRecDepth 100000 in
theorem vnobody_lifted (os : Os) (started : os.Started) (H : Type) (enc : TypeId × Value → H) :
    ReturnsInHanded {} Tryz.checked os 4 .any (Rows.vaultNobodySpec.pre6 enc Tryz.prog Tryz.f4 Rows.vaultNobodyRow.domain false) (Rows.vaultNobodySpec.post enc Tryz.prog Tryz.f4 false true false false) := by
  refine returnsInHanded_of_change (C := Tryz.checked) Tryz.own started (by kernel_rfl) Tryz.func4
    (ChangeSpec.witness6 (enc := enc) (C := Tryz.checked) false ⟨#[], #[.int .i64 0, .int .i64 0], []⟩ 8 (by kernel_rfl) (by kernel_rfl) (by kernel_rfl) (by kernel_rfl)) ?_
  intro W base args ds gs before hval0 hW hcnd _
  have hval : ∀ (j : Nat) t v, Tryz.f4.params[j]? = some t → args[j]? = some v → Value.okWide Tryz.prog W .any base t v := hval0
  have hW' := hW
  obtain ⟨p, q, hA0, hV, rfl, hfz, hnd⟩ := hW
  have hA : DataW.TrodAll enc Tryz.prog W 0 (fun _ => true) true Tryz.f4.params.toList args.toList ds p := hA0
  rw [Tryz.params4] at hA hval
  obtain ⟨v0, vs0, d0, ds0, p0, q0, hargs, rfl, rfl, h0, r0⟩ := trodAll_cons hA
  obtain ⟨v1, vs1, d1, ds1, p1, q1, rfl, rfl, rfl, h1, r1⟩ := trodAll_cons r0
  obtain ⟨rfl, rfl, rfl⟩ := trodAll_nil r1
  obtain rfl : args = #[v0, v1] := by cases args; simp_all
  obtain ⟨rfl, rfl⟩ := trodVars_none hV
  obtain ⟨a0, rfl, rfl, rfl, w0⟩ := open_int Tryz.underlying3 (hval 0 3 v0 rfl rfl) h0
  obtain ⟨a1, rfl, rfl, rfl, w1⟩ := open_int Tryz.underlying3 (hval 1 3 v1 rfl rfl) h1
  clear hA0 hval0
  refine (vnobody_walk W a0 a1 (by have := wf_i64_bounds w0; omega)).mono fun e W' ⟨he, bel⟩ => ?_
  subst he
  exact ⟨_, rfl, _, _, _, [], _, [], hW', trodAll_mk1 (shut_bool Tryz.underlying4 _), (trodAll_cons_mk (shut_int Tryz.underlying3 w0) (trodAll_cons_mk (shut_int Tryz.underlying3 w1) trodAll_mk0)), rfl, bel.frame _, fun h => by cases h⟩

theorem vnobody_holds : Rows.VaultNobodySaid :=
  OpenClaim.holds_of_wide 4 Tryz.f4 rfl rfl rfl rfl rfl rfl rfl ⟨rfl, rfl, rfl, rfl, rfl⟩ rfl rfl rfl rfl rfl (by kernel_rfl) Tryz.func4 (by kernel_rfl)
    (of_decide_eq_true (by kernel_rfl)) (by unfold Func.isWrapper; first | (rw [if_pos (by decide +kernel)]; kernel_rfl) | (rw [if_neg (by decide +kernel)]; exact ⟨rfl, rfl⟩))
    (fun os started H enc _ => vnobody_lifted os started H enc)

end Go.Proofs.YtipbaajdnnddgaaGreat
