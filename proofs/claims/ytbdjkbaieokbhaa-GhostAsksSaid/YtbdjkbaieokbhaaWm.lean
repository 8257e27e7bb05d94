import Derived.Test.YtbdjkbaieokbhaaWl
namespace Go.Tn.Ghost
theorem fstep_not_one (e0 e : Evt) (s : Int × Int) (h : s.1 = 2 ∨ s.1 = 3) : (fstep e0 e s).1 = 2 ∨ (fstep e0 e s).1 = 3 := by
  unfold fstep
  repeat' split
  all_goals (try dsimp only)
  all_goals first | exact .inl rfl | exact .inr rfl | exact h
theorem fstep_vals (e0 e : Evt) (s : Int × Int) (h : s.1 = 1 ∨ s.1 = 2 ∨ s.1 = 3) : (fstep e0 e s).1 = 1 ∨ (fstep e0 e s).1 = 2 ∨ (fstep e0 e s).1 = 3 := by
  unfold fstep
  repeat' split
  all_goals (try dsimp only)
  all_goals first | exact h | exact .inr (.inl rfl) | exact .inr (.inr rfl)
theorem frun_vals (E : Nat → Evt) (i : Nat) : ∀ m, (frun E i m).1 = 1 ∨ (frun E i m).1 = 2 ∨ (frun E i m).1 = 3
  | 0 => .inl rfl
  | m + 1 => fstep_vals _ _ _ (frun_vals E i m)
theorem frun_on (E : Nat → Evt) (i m : Nat) (h : (frun E i m).1 = 2 ∨ (frun E i m).1 = 3) : ∀ d, (frun E i (m + d)).1 = 2 ∨ (frun E i (m + d)).1 = 3
  | 0 => h
  | d + 1 => fstep_not_one _ _ _ (frun_on E i m h d)

/-- What a fate may become when more events come. -/
theorem fate_grows (E : Nat → Evt) {n m k : Nat} (hn : n ≤ m) (hk : k < n) :
    (fate E n k = 0 ∧ fate E m k = 0) ∨ (fate E n k = 1 ∧ fate E m k = 1) ∨ (fate E n k = 1 ∧ fate E m k = 2) ∨ (fate E n k = 1 ∧ fate E m k = 3) ∨ (fate E n k = 2 ∧ fate E m k = 2) ∨ (fate E n k = 3 ∧ fate E m k = 2) ∨ (fate E n k = 3 ∧ fate E m k = 3) := by
  unfold fate
  by_cases h : (E k).k = 3
  · simp only [h, if_true]
    have e : m - (k + 1) = n - (k + 1) + (m - n) := by omega
    rw [e]
    have h1 := frun_vals E k (n - (k + 1))
    have h2 := frun_vals E k (n - (k + 1) + (m - n))
    have h3 := fun h => frun_on E k (n - (k + 1)) h (m - n)
    have h4 := fun h => frun_two E k (n - (k + 1)) h (m - n)
    rcases h1 with h1 | h1 | h1
    · rcases h2 with h2 | h2 | h2 <;> simp [h1, h2]
    · rw [h4 h1]; simp [h1]
    · rcases h3 (.inr h1) with h2 | h2 <;> simp [h1, h2]
  · simp [h]
end Go.Tn.Ghost

namespace Go.Proofs.Ytbdjkbaieokbhaa
open Go.RowKit Go.Tn Go.Tn.Ghost

theorem EvSl.below {w w' : World} {v : Value} {n : Nat} {E : Nat → Evt} (h : EvSl w v n E) (hb : Below w.heap.size w w') : EvSl w' v n E := by
  obtain ⟨ao, cap, rfl, hE⟩ := h
  exact ⟨_, _, rfl, fun h0 => by
    obtain ⟨b, off, rfl, hbw, hin⟩ := hE h0
    exact ⟨b, off, rfl, by have := hb.size; omega, hin.below hb hbw⟩⟩

theorem within_any (w : World) (x : Int) (m : Nat) : Calls Try.prog 9 #[.int .i64 x, .int .i64 0, .int .i64 m] w fun e w' => (∃ k : Nat, k ≤ m ∧ e = .returned (.int .i64 k)) ∧ w' = w := by
  by_cases h1 : x < 0
  · go_enter Try.func9, Try.ntmps9
    go_wp2
    go_ret
    exact ⟨⟨0, Nat.zero_le _, rfl⟩, rfl⟩
  · by_cases h2 : (m : Int) < x
    · go_enter Try.func9, Try.ntmps9
      go_wp2
      go_ret
      exact ⟨⟨m, Nat.le_refl _, rfl⟩, rfl⟩
    · obtain ⟨k, rfl⟩ := Int.eq_ofNat_of_zero_le (show 0 ≤ x by omega)
      have h3 : k ≤ m := by omega
      go_enter Try.func9, Try.ntmps9
      go_wp2
      go_ret
      exact ⟨⟨k, h3, rfl⟩, rfl⟩

set_option maxHeartbeats 1000000 in
theorem ghostGrows_walk (w : World) (ao : Option Addr) (n cap : Nat) (x : Int) (E : Nat → Evt) (hE : 0 < n → ∃ b off, ao = some ⟨b, off, none⟩ ∧ b < w.heap.size ∧ EvIn w b off n E) (hnc : n ≤ cap) (hcm : cap ≤ maxLen) :
    Calls Try.prog 4 #[.slice ao n cap, .int .i64 x] w fun e w' => e = .returned (.bool true) ∧ Below w.heap.size w w' := by
  unfold maxLen at hcm
  obtain ⟨m, hm, hmn, hsl, h1, h2⟩ := cut60 (cap := cap) hE
  clear hE
  by_cases h : 60 < n
  case' pos =>
    obtain ⟨hm60, b, off, rfl⟩ := h1 h
    have hi : (60 : Int) < (n : Int) := by omega
    have HM := Lib.hid hm60
    clear h1 h2 hm60 h
    go_enter Try.func4, Try.ntmps4
    go_upto_region 3 with (fail)
    rw [show (60 : Nat) = m from HM.out.symm]
    clear HM hi
    generalize (some ⟨b, off, none⟩ : Option Addr) = ao at *
  case' neg =>
    have hi : (n : Int) ≤ 60 := by omega
    obtain rfl := h2 (by omega)
    clear h1 h2 h
    go_enter Try.func4, Try.ntmps4
    go_upto_region 3 with (fail)
    clear hi
  all_goals
    go_wp2_with fail
    refine (within_any w x m).mono ?_
    rintro e w0 ⟨⟨j, hj, rfl⟩, rfl⟩
    have hslj : EvSl w0 (.slice ao j cap) j E := by
      obtain ⟨ao', cap', hv, hev⟩ := hsl
      cases hv
      exact ⟨_, _, rfl, fun h => by
        obtain ⟨b, off, rfl, hb, hin⟩ := hev (by omega)
        exact ⟨b, off, rfl, hb, fun i hi => hin i (by omega)⟩⟩
    have hj1 : (j : Int) ≤ (cap : Int) := by omega
    have hj2 : (0 : Int) ≤ (j : Int) := by omega
    go_upto_region 4 with (fail)
    cases ao
    case' some a0 => skip
    all_goals
      go_wp2_with fail
      refine (fates_any w0 _ j E hslj (by omega)).mono ?_
      rintro e w1 ⟨ba, rfl, hba, hfa, hb1⟩
      have hsl1 := hsl.below hb1
      clear hsl hslj
      go_wp2_with fail
      refine (fates_any w1 _ m E hsl1 hm).mono ?_
      rintro e w2 ⟨bb, rfl, hbb, hfb, hb2⟩
      have hb02 : Below w0.heap.size w0 w2 := hb1.trans (hb2.mono hb1.size)
      have hca : ∀ k : Nat, k < j → w2.cell? ⟨ba, k, none⟩ = some (zv (fate E j k)) := fun k hk => by
        rw [hb2.cell (p := ⟨ba, k, none⟩) (World.block_lt_of_cell? w1 ⟨ba, k, none⟩ (cell_fate hfa hk))]
        exact cell_fate hfa hk
      have hcb : ∀ k : Nat, k < j → w2.cell? ⟨bb, k, none⟩ = some (zv (fate E m k)) := fun k hk => cell_fate hfb (by omega)
      clear hsl1 hb1 hb2 hfa hfb hba hbb
      go_wp2
      go_loopw [7] (fun c wr => ∃ k : Nat, k ≤ j ∧ c = .int .i64 k ∧ ∃ nd, wr = w2.drewN nd) (fun c _ => j - (intOf c).toNat)
      case atStart => exact ⟨0, Nat.zero_le _, rfl, 0, rfl⟩
      case round =>
        obtain ⟨k, hk, rfl, nd, rfl⟩ := hrel
        by_cases hlt : k < j
        · have c1 := hca k hlt
          have c2 := hcb k hlt
          have hlt' : (k : Int) < (j : Int) := by omega
          have hltm : (k : Int) < (m : Int) := by omega
          have hg := fate_grows E hj hlt
          clear hca hcb
          generalize fate E j k = fa at *
          generalize fate E m k = fb at *
          rcases hg with ⟨rfl, rfl⟩ | ⟨rfl, rfl⟩ | ⟨rfl, rfl⟩ | ⟨rfl, rfl⟩ | ⟨rfl, rfl⟩ | ⟨rfl, rfl⟩ | ⟨rfl, rfl⟩
          all_goals
            go_wp2
            go_quiet (fail)
            go_wp2
            go_roundw
            case rel => exact ⟨k + 1, by omega, by go_num, nd + nq, by first | rfl | rw [World.drewN_drewN]⟩
            case measure => simp [intOf]; omega
        · obtain rfl : k = j := by omega
          go_wp2_with fail
          refine (lives_any _).mono ?_
          rintro e w3 ⟨rfl, hb3⟩
          go_wp2
          go_ret
          exact ⟨rfl, (below_drewN hb02 nd).trans (hb3.mono (by simpa using hb02.size))⟩

end Go.Proofs.Ytbdjkbaieokbhaa
