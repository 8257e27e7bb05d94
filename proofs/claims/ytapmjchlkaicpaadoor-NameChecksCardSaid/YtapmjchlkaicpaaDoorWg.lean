/- The walk of the law NameChecks. -/
import Derived.Test.YtapmjchlkaicpaaDoorWf
namespace Go.Proofs.YtapmjchlkaicpaaDoor
open Go.RowKit Go.Tn Go.Tn.Names

set_option maxHeartbeats 4000000 in
set_option maxRecDepth 20000 in
theorem checks_walk (w : World) (s p : ByteArray) (hR : Room w) (hs : s.size ≤ maxLen) (hp : p.size ≤ maxLen) : Calls Tryd.prog 3 #[.string s, .string p] w
    fun e w' => e = .returned (.bool true) ∧ Below w.heap.size w w' := by
  go_enter Tryd.func3, Tryd.ntmps3
  go_wp2_with fail
  refine (short_any w s 40 hs (by decide)).mono ?_
  rintro e w' ⟨s1, rfl, hs1, hl1, hw⟩
  obtain rfl := hw.symm
  clear hw
  go_wp2_with fail
  refine (short_any w p 200 hp (by decide)).mono ?_
  rintro e w' ⟨p1, rfl, hp1, hl2, hw⟩
  obtain rfl := hw.symm
  clear hw hs1 hp1 hs hp
  go_wp2_with fail
  refine (splitR w p1 hR (by omega)).mono ?_
  rintro e w1 ⟨⟨v, er, xs, rfl, hv, hA⟩, hb1⟩
  have hR1 := hR.below (Nat.le_refl _) hb1
  go_wp2_with fail
  refine (rSplit_any w1 p1 (by omega)).mono ?_
  rintro e w2 ⟨⟨u, ok, ys, rfl, hu, hB⟩, hb12⟩
  have hb2 := hb1.trans (hb12.mono hb1.size)
  have hv2 := hv.below hb12
  have hR2 := hR1.below (Nat.le_refl _) hb12
  clear hv hb12 hR1 hb1
  obtain ⟨rfl, h2⟩ : xs = ys ∧ ((er = 0 ∧ ok = true) ∨ (er = 9 ∧ ok = false)) := by
    rcases hA with ⟨hA, rfl⟩ | ⟨hA, rfl, rfl⟩
    · rcases hB with ⟨hB, rfl⟩ | ⟨hB, rfl, rfl⟩
      · rw [hA] at hB
        exact ⟨texts_inj (Option.some.inj hB), .inl ⟨rfl, rfl⟩⟩
      · rw [hA] at hB; cases hB
    · rcases hB with ⟨hB, rfl⟩ | ⟨hB, rfl, rfl⟩
      · rw [hA] at hB; cases hB
      · exact ⟨rfl, .inr ⟨rfl, rfl⟩⟩
  clear hA hB
  have hI := fun w => rIs_any w s1 (by omega)
  have hC := fun w => check_any w s1
  have hSm := fun w h1 h2 => same_any w v u xs xs h1 h2
  simp only [decide_true] at hSm
  cases hn : isName (bs s1)
  case' false => rw [hn] at hI; rw [errOf_no hn] at hC
  case' true => rw [hn] at hI; rw [errOf_yes hn] at hC
  all_goals
    clear hn
    rcases h2 with ⟨rfl, rfl⟩ | ⟨rfl, rfl⟩
    all_goals
      go_wp2_with fail
      refine (hC w2).mono ?_
      rintro e w3 ⟨rfl, hb3⟩
      have hb3' := hb2.trans (hb3.mono hb2.size)
      have hR3 := hR2.below (Nat.le_refl _) hb3
      have hv3 := hv2.below hb3
      have hu3 := hu.below hb3
      go_wp2_with fail
      refine (hI w3).mono ?_
      rintro e w' ⟨rfl, hw⟩
      obtain rfl := hw.symm
      clear hw
      go_wp2_with fail
      refine (hI w3).mono ?_
      rintro e w' ⟨rfl, hw⟩
      obtain rfl := hw.symm
      clear hw
      go_wp2_with fail
      first
        | (refine (hSm w3 hv3 hu3).mono ?_
           rintro e w4 ⟨rfl, nd, rfl⟩
           have hb4 := below_drewN hb3' nd
           have hR4 := hR3.drewN nd)
        | (refine (hC w3).mono ?_
           rintro e w5 ⟨rfl, hb5⟩
           have hb5' := hb3'.trans (hb5.mono hb3'.size)
           have hR5 := hR3.below (Nat.le_refl _) hb5
           have hv5 := hv3.below hb5
           have hu5 := hu3.below hb5
           go_wp2_with fail
           refine (hSm w5 hv5 hu5).mono ?_
           rintro e w4 ⟨rfl, nd, rfl⟩
           have hb4 := below_drewN hb5' nd
           have hR4 := hR5.drewN nd)
      go_wp2_with fail
      refine (lives_any _ hR4).mono ?_
      rintro e w6 ⟨rfl, hb6⟩
      go_wp2
      go_ret
      exact ⟨rfl, hb4.trans (hb6.mono hb4.size)⟩
end Go.Proofs.YtapmjchlkaicpaaDoor
