/- Walks of 'turn', 'Hold', 'Give' of the map of homes. -/
import Derived.Test.YtghfaiojmpchgaaWa
import Derived.Test.YtghfaiojmpchgaaSt
import Derived.Deep.Cut
import Derived.Deep.CutBlock
import Derived.Maps.RangeWalk
namespace Go.Proofs.Ytghfaiojmpchgaa
open Go.RowKit Go.Tn Go.Tn.Bits

theorem size64 : (Try.prog.info? 50).map (·.size) = some 1 := by kernel_rfl
theorem scalar64 : ScalarT Try.prog 50 := ⟨⟨_, Try.underlying50, rfl⟩⟩

/-- A home is turned. -/
theorem turn_yes (w : World) (b n : Nat) (T : Nat → Bool) (hM : MapAt w b n T) (i : Nat) (hi : i < n) (wrong : Int) : Calls Try.prog 28 #[.pointer (some ⟨b, 0, none⟩), .int .i64 i, .bool (T i), .int .i64 wrong] w
    fun e w' => e = .returned (.int .i64 0) ∧ MapAt w' b n (setB T i (!T i)) ∧ Mod (fun x => x = b) w w' := by
  have hbit := fun w => bit_any w i
  have c := hM.w_ (k := i / 64) (by have := hM.le; omega)
  have hidx : (i : Int) / 64 < 16 := by have := hM.le; omega
  have hx := wd_xor T i
  have hq : IntKind.i64.wrap ((i : Int) / 64) = (i : Int) / 64 := by simp [IntKind.wrap, IntKind.bits, IntKind.signed]; omega
  have hq0 : (0 : Int) ≤ (i : Int) / 64 := by omega
  have hqn : ((i : Int) / 64).toNat = i / 64 := by omega
  have hset : ∀ w, MapAt w b n T → MapAt (w.setCell ⟨b, 1 + i / 64, none⟩ (.int .u64 (wd (setB T i (!T i)) (i / 64)))) b n (setB T i (!T i)) := fun w hw => cell_set hw (by have := hM.le; omega) (fun j _ hj => wd_other T i _ hj) (fun j hj => by rw [setB_ne T _ (by omega)]; exact hM.out j hj)
  have HS := Lib.hid hset
  clear hset
  generalize 2 ^ (63 - i % 64) = p at *
  generalize wd T (i / 64) = x at *
  generalize wd (setB T i (!T i)) (i / 64) = y at *
  cases hT : T i
  case' false => skip
  case' true => skip
  all_goals
    have hH := has_yes w b n T hM i hi
    rw [hT] at hH
    go_enter Try.func28, Try.ntmps28
    go_wp2_with (first
      | (go_at_call 29; refine (ok_any _ b n T hM).mono ?_; rintro e w ⟨rfl, rfl⟩)
      | (go_at_call 33; refine (in_yes _ b n T hM i hi).mono ?_; rintro e w ⟨rfl, rfl⟩)
      | (go_at_call 20; refine hH.mono ?_; rintro e w2 ⟨rfl, nd, rfl⟩))
    refine wp_region_x (fun w' => w'.cell? ⟨b, 1 + i / 64, none⟩ = some (.int .u64 x)) [(0, 1), (1, 1), (2, 1), (3, 1), (4, 1), (5, 1), (6, 0), (7, 1), (10, 1), (11, 1), (8, 2), (9, 1), (12, 1), (13, 3)] (by kernel_rfl) (by kernel_rfl) (by intro d v c a w h; cases d <;> exact h) ?_
    iterate 6 (refine x_take rfl (fun K hK => ?_); go_simp; refine hK _ ?_; clear hK K)
    refine x_read rfl c (fun w' h => exec_load1 scalar64 rfl h) ?_
    iterate 3 (refine x_take rfl (fun K hK => ?_); go_simp; refine hK _ ?_; clear hK K)
    refine x_show' rfl (fun K hK => ?_)
    go_simp
    refine (hbit _).mono ?_
    rintro e w3 ⟨rfl, hw3⟩
    obtain rfl := hw3.symm
    clear hw3
    refine hK _ _ c ?_
    clear hK K
    iterate 2 (refine x_take rfl (fun K hK => ?_); go_simp; refine hK _ ?_; clear hK K)
    refine x_skip rfl (exec_store1 scalar64 size64 rfl rfl rfl c hM.free) ?_
    refine x_nil ?_
    go_wp2
    go_ret
    have hS := HS.out _ (hM.drewN nd).drew
    rw [hT] at hS
    exact ⟨rfl, hS, ((Mod.refl _ w).drewN (nd + 1)).setCell _ _ (fun _ => rfl)⟩

/-- A home is not turned. -/
theorem turn_wrong (w : World) (b n : Nat) (T : Nat → Bool) (hM : MapAt w b n T) (i : Nat) (hi : i < n) (wrong : Int) : Calls Try.prog 28 #[.pointer (some ⟨b, 0, none⟩), .int .i64 i, .bool (!T i), .int .i64 wrong] w
    fun e w' => e = .returned (.int .i64 wrong) ∧ ∃ k, w' = w.drewN k := by
  cases hT : T i
  case' false => skip
  case' true => skip
  all_goals
    have hH := has_yes w b n T hM i hi
    rw [hT] at hH
    go_enter Try.func28, Try.ntmps28
    go_wp2_with (first
      | (go_at_call 29; refine (ok_any _ b n T hM).mono ?_; rintro e w ⟨rfl, rfl⟩)
      | (go_at_call 33; refine (in_yes _ b n T hM i hi).mono ?_; rintro e w ⟨rfl, rfl⟩)
      | (go_at_call 20; refine hH.mono ?_; rintro e w2 ⟨rfl, nd, rfl⟩))
    go_ret
    exact ⟨rfl, nd, rfl⟩

theorem turn_out (w : World) (b n : Nat) (T : Nat → Bool) (hM : MapAt w b n T) (i : Int) (hi : ¬ (0 ≤ i ∧ i < n)) (is : Bool) (wrong : Int) : Calls Try.prog 28 #[.pointer (some ⟨b, 0, none⟩), .int .i64 i, .bool is, .int .i64 wrong] w
    fun e w' => e = .returned (.int .i64 2) ∧ w' = w := by
  go_enter Try.func28, Try.ntmps28
  go_wp2_with (first
    | (go_at_call 29; refine (ok_any _ b n T hM).mono ?_; rintro e w ⟨rfl, rfl⟩)
    | (go_at_call 33; refine (in_no _ b n T hM i hi).mono ?_; rintro e w ⟨rfl, rfl⟩))
  go_ret
  exact ⟨rfl, rfl⟩

/-- What Hold answers, and what it leaves. -/
def holdA (n : Nat) (T : Nat → Bool) (i : Int) : Int := if 0 ≤ i ∧ i < n then (if T i.toNat then 10 else 0) else 2
def holdT (n : Nat) (T : Nat → Bool) (i : Int) : Nat → Bool := if 0 ≤ i ∧ i < n then setB T i.toNat true else T
def giveA (n : Nat) (T : Nat → Bool) (i : Int) : Int := if 0 ≤ i ∧ i < n then (if T i.toNat then 0 else 11) else 2
def giveT (n : Nat) (T : Nat → Bool) (i : Int) : Nat → Bool := if 0 ≤ i ∧ i < n then setB T i.toNat false else T

theorem hold_any (w : World) (b n : Nat) (T : Nat → Bool) (hM : MapAt w b n T) (i : Int) : Calls Try.prog 9 #[.pointer (some ⟨b, 0, none⟩), .int .i64 i] w
    fun e w' => e = .returned (.int .i64 (holdA n T i)) ∧ MapAt w' b n (holdT n T i) ∧ Mod (fun x => x = b) w w' := by
  by_cases hi : 0 ≤ i ∧ i < n
  · unfold holdA holdT
    rw [if_pos hi, if_pos hi]
    obtain ⟨k, rfl⟩ := Int.eq_ofNat_of_zero_le hi.1
    have hk : k < n := by omega
    rw [Int.toNat_natCast]
    cases hT : T k
    · have hY := turn_yes w b n T hM k hk 10
      rw [hT] at hY
      go_enter Try.func9, Try.ntmps9
      go_wp2_with fail
      refine hY.mono ?_
      rintro e w2 ⟨rfl, h2, m2⟩
      go_wp2
      go_ret
      exact ⟨rfl, h2, m2⟩
    · have hY := turn_wrong w b n T hM k hk 10
      rw [hT] at hY
      have HS := Lib.hid (show setB T k true = T by rw [← hT, setB_self])
      go_enter Try.func9, Try.ntmps9
      go_wp2_with fail
      refine hY.mono ?_
      rintro e w2 ⟨rfl, nd, rfl⟩
      go_wp2
      go_ret
      exact ⟨rfl, by rw [HS.out]; exact hM.drewN nd, (Mod.refl _ w).drewN _⟩
  · unfold holdA holdT
    rw [if_neg hi, if_neg hi]
    have hY := turn_out w b n T hM i hi false 10
    go_enter Try.func9, Try.ntmps9
    go_wp2_with fail
    refine hY.mono ?_
    rintro e w ⟨rfl, rfl⟩
    go_wp2
    go_ret
    exact ⟨rfl, hM, Mod.refl _ _⟩

theorem give_any (w : World) (b n : Nat) (T : Nat → Bool) (hM : MapAt w b n T) (i : Int) : Calls Try.prog 17 #[.pointer (some ⟨b, 0, none⟩), .int .i64 i] w
    fun e w' => e = .returned (.int .i64 (giveA n T i)) ∧ MapAt w' b n (giveT n T i) ∧ Mod (fun x => x = b) w w' := by
  by_cases hi : 0 ≤ i ∧ i < n
  · unfold giveA giveT
    rw [if_pos hi, if_pos hi]
    obtain ⟨k, rfl⟩ := Int.eq_ofNat_of_zero_le hi.1
    have hk : k < n := by omega
    rw [Int.toNat_natCast]
    cases hT : T k
    · have hY := turn_wrong w b n T hM k hk 11
      rw [hT] at hY
      have HS := Lib.hid (show setB T k false = T by rw [← hT, setB_self])
      go_enter Try.func17, Try.ntmps17
      go_wp2_with fail
      refine hY.mono ?_
      rintro e w2 ⟨rfl, nd, rfl⟩
      go_wp2
      go_ret
      exact ⟨rfl, by rw [HS.out]; exact hM.drewN nd, (Mod.refl _ w).drewN _⟩
    · have hY := turn_yes w b n T hM k hk 11
      rw [hT] at hY
      go_enter Try.func17, Try.ntmps17
      go_wp2_with fail
      refine hY.mono ?_
      rintro e w2 ⟨rfl, h2, m2⟩
      go_wp2
      go_ret
      exact ⟨rfl, h2, m2⟩
  · unfold giveA giveT
    rw [if_neg hi, if_neg hi]
    have hY := turn_out w b n T hM i hi true 11
    go_enter Try.func17, Try.ntmps17
    go_wp2_with fail
    refine hY.mono ?_
    rintro e w ⟨rfl, rfl⟩
    go_wp2
    go_ret
    exact ⟨rfl, hM, Mod.refl _ _⟩

end Go.Proofs.Ytghfaiojmpchgaa
