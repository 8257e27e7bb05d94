/- The walk of the law NameJoins. -/
import Derived.Test.YtapmjchlkaicpaaDoorJd
import Derived.Test.YtapmjchlkaicpaaDoorUa
namespace Go.Proofs.YtapmjchlkaicpaaDoor
open Go.RowKit Go.Tn Go.Tn.Names

theorem joinP_len (L : List (List UInt8)) : (joinP L).length ≤ 200 := by
  by_cases h : okNames L
  · rw [joinP_yes h]
    split
    · simp
    · have := tl_len L h.2
      have := h.1
      omega
  · rw [joinP_no h]; simp

set_option maxHeartbeats 4000000 in
set_option maxRecDepth 20000 in
theorem joins_walk (w : World) (v : Value) (xs : List ByteArray) (p : ByteArray) (hR : Room w) (hv : TextSl w v xs) (hx : sizesTo maxLen xs) (hp : p.size ≤ maxLen) : Calls Tryd.prog 5 #[v, .string p] w
    fun e w' => e = .returned (.bool true) ∧ Below w.heap.size w w' := by
  have hO : Okay w w := ⟨hR, Below.refl _ _⟩
  go_enter Tryd.func5, Tryd.ntmps5
  go_wp2_with fail
  refine (texts_any w v xs hv hx).mono ?_
  rintro e w1 ⟨⟨u, ys, rfl, hu, hyl, hys⟩, hb1⟩
  have hO1 := hO.next hb1
  clear hO hb1 hv hx
  go_wp2_with fail
  refine (short_any w1 p 200 hp (by decide)).mono ?_
  rintro e w' ⟨p1, rfl, _, hl2, hw⟩
  obtain rfl := hw.symm
  clear hw hp
  go_wp2_with fail
  refine (join_any w1 u ys hu hyl).mono ?_
  rintro e w2 ⟨⟨s, rfl, hs⟩, hb2⟩
  have hO2 := hO1.next hb2
  have hu2 := hu.below hb2
  clear hO1 hb2 hu
  go_wp2_with fail
  refine (rJoin_any w2 u ys hu2 hyl hys).mono ?_
  rintro e w' ⟨⟨s', rfl, hs'⟩, hw⟩
  obtain rfl := hw.symm
  clear hw
  obtain rfl : s' = s := bs_inj (hs'.trans hs.symm)
  clear hs'
  have hsl : s'.size ≤ 200 := by
    have := joinP_len (texts ys)
    rw [← hs, bs_len] at this
    exact this
  go_wp2_with fail
  refine (splitR w2 s' hO2.room (by omega)).mono ?_
  rintro e w3 ⟨⟨v3, er, zs, rfl, hv3, hA⟩, hb3⟩
  have hO3 := hO2.next hb3
  have hu3 := hu2.below hb3
  clear hO2 hu2 hb3
  have hsp := fun w' h => (splitR w' p1 (Okay.room h) (by omega)).mono (R' := fun e w'' => (∃ v er xs, e = .returned (.tuple #[v, .int .i64 er]) ∧ TextSl w'' v xs ∧ splitOk p1 er xs) ∧ Okay w w'') (fun _ _ ⟨h1, h2⟩ => ⟨h1, h.next h2⟩)
  have hlives := fun w' h => lives_ok w w' h
  by_cases hok : okNames (texts ys)
  case' pos =>
    have hsj := split_join hok
    rw [← hs] at hsj
    have hne : (s'.toList == []) = false := by
      rw [bs_eq, hs]
      cases hj : joinP (texts ys) with
      | nil => exact absurd hj (joinP_ne hok)
      | cons => rfl
    obtain ⟨rfl, rfl⟩ : zs = ys ∧ er = 0 := by
      rcases hA with ⟨hA, rfl⟩ | ⟨hA, _⟩
      · rw [hsj] at hA
        exact ⟨(texts_inj (Option.some.inj hA)).symm, rfl⟩
      · rw [hsj] at hA; cases hA
    have hsm := same_any w3 v3 u zs zs hv3 hu3
    simp only [decide_true] at hsm
    clear hsj hs hA hok
    go_wp2_with fail
    refine hsm.mono ?_
    rintro e w4 ⟨rfl, nd, rfl⟩
    have hO4 := hO3.drewN nd
    clear hO3 hsm hv3 hu3
    generalize w3.drewN nd = w4 at *
  case' neg =>
    have hne : (s'.toList == []) = true := by
      rw [bs_eq, hs, joinP_no hok]
      rfl
    have hO4 := hO3
    clear hs hok hA hO3 hv3 hu3
    obtain ⟨w4, hw4⟩ : ∃ w4, w4 = w3 := ⟨_, rfl⟩
    subst hw4
  all_goals
    go_wp2_with fail
    refine (hsp _ hO4).mono ?_
    rintro e w5 ⟨⟨v5, er5, qs, rfl, hv5, hB⟩, hO5⟩
    rcases hB with ⟨hB, rfl⟩ | ⟨hB, rfl, rfl⟩
    · obtain ⟨hq1, hq2⟩ := join_split hB
      have hql : qs.length ≤ 10 := by have := hq1.1; simp [texts] at this; omega
      go_wp2_with fail
      refine (join_any w5 v5 qs hv5 hql).mono ?_
      rintro e w6 ⟨⟨s6, rfl, hs6⟩, hb6⟩
      obtain rfl : s6 = p1 := bs_inj (hs6.trans hq2)
      have hO6 := hO5.next hb6
      clear hs6 hq1 hq2 hB
      go_wp2_with fail
      refine (hlives _ hO6).mono ?_
      rintro e w7 ⟨rfl, hO7⟩
      go_wp2
      go_ret
      exact ⟨rfl, hO7.bel⟩
    · clear hB
      go_wp2_with fail
      refine (hlives _ hO5).mono ?_
      rintro e w7 ⟨rfl, hO7⟩
      go_wp2
      go_ret
      exact ⟨rfl, hO7.bel⟩
end Go.Proofs.YtapmjchlkaicpaaDoor
