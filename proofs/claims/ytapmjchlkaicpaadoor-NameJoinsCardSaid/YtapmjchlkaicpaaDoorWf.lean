/- Under, lives: walked. -/
import Derived.Test.YtapmjchlkaicpaaDoorWe
namespace Go.Proofs.YtapmjchlkaicpaaDoor
open Go.RowKit Go.Tn Go.Tn.Names

/-- The library's own variable, that its search reads, is a number. -/
def Room (w : World) : Prop := 0 < w.heap.size ∧ ∃ m : Int, w.cell? ⟨0, 0, none⟩ = some (.int .i64 m)
theorem Room.below {w w' : World} {B : Nat} (h : Room w) (hB : w.heap.size ≤ B) (hb : Below B w w') : Room w' := by
  obtain ⟨h0, m, hm⟩ := h
  have hs := hb.size
  refine ⟨?_, m, ?_⟩
  · have h1 := hb.block 0 (by omega)
    rcases Nat.lt_or_ge 0 w'.heap.size with h2 | h2
    · exact h2
    · rw [Array.getElem?_eq_none (by omega), Array.getElem?_eq_getElem h0] at h1
      cases h1
  · rw [hb.cell (p := ⟨0, 0, none⟩) (show 0 < B by omega)]; exact hm
theorem Room.drewN {w : World} (h : Room w) (n : Nat) : Room (w.drewN n) := h

theorem splitR (w : World) (s : ByteArray) (hR : Room w) (hs : s.size ≤ 999) : Calls Tryd.prog 7 #[.string s] w
    fun e w' => (∃ v er xs, e = .returned (.tuple #[v, .int .i64 er]) ∧ TextSl w' v xs ∧ splitOk s er xs) ∧ Below w.heap.size w w' := by
  obtain ⟨_, m, hm⟩ := hR
  exact split_any w s m (by omega) hm

theorem under_none {a b : List UInt8} (h : splitP a = none) : underB a b = false := by unfold underB; rw [h]
theorem under_none' {a b : List UInt8} (h : splitP b = none) : underB a b = false := by
  unfold underB
  rw [h]
  cases splitP a <;> rfl
theorem under_some {a b : ByteArray} {xs ys : List ByteArray} (h : splitP (bs a) = some (texts xs)) (h' : splitP (bs b) = some (texts ys)) : underB (bs a) (bs b) = (decide (ys.length < xs.length) && decide (xs.take ys.length = ys)) := by
  unfold underB
  rw [h, h']
  simp only [texts, List.length_map]
  congr 1
  rw [decide_eq_decide, ← List.map_take]
  exact ⟨fun h => texts_inj h, fun h => by rw [h]⟩

set_option maxHeartbeats 2000000 in
theorem under_any (w : World) (a b : ByteArray) (hR : Room w) (ha : a.size ≤ 999) (hb : b.size ≤ 999) : Calls Tryd.prog 13 #[.string a, .string b] w
    fun e w' => e = .returned (.bool (underB (bs a) (bs b))) ∧ Below w.heap.size w w' := by
  obtain ⟨q, hq⟩ : ∃ q, underB (bs a) (bs b) = q := ⟨_, rfl⟩
  rw [hq]
  have HQ := Lib.hid hq
  clear hq
  go_enter Tryd.func13, Tryd.ntmps13
  go_wp2_with fail
  refine (splitR w a hR ha).mono ?_
  rintro e w1 ⟨⟨v, er, xs, rfl, hv, hA⟩, hb1⟩
  have hR1 := hR.below (Nat.le_refl _) hb1
  go_wp2_with fail
  refine (splitR w1 b hR1 hb).mono ?_
  rintro e w2 ⟨⟨u, fr, ys, rfl, hu, hB⟩, hb12⟩
  have hb2 := hb1.trans (hb12.mono hb1.size)
  have hv2 := hv.below hb12
  clear hv hb12 hR1
  have hv' := hv2
  have hu' := hu
  obtain ⟨ao, cap, rfl, hl1, hm1, hx1⟩ := hv'
  obtain ⟨ao', cap', rfl, hl2, hm2, hx2⟩ := hu'
  unfold maxLen at hm1 hm2
  rcases hA with ⟨hA, rfl⟩ | ⟨hA, rfl, rfl⟩
  · rcases hB with ⟨hB, rfl⟩ | ⟨hB, rfl, rfl⟩
    · have hS := under_some hA hB
      rw [HQ.out] at hS
      by_cases hlt : ys.length < xs.length
      · have hlt' : (ys.length : Int) < (xs.length : Int) := by omega
        have hle : ys.length ≤ cap := by omega
        obtain ⟨bb, off, rfl, _, _⟩ := hx1 (by omega)
        simp only [hlt, decide_true, Bool.true_and] at hS
        have he := fun w3 h1 h2 => equal_any w3 (.slice ao' ys.length cap') (some ⟨bb, off, none⟩) cap ys.length xs ys h1 h2 (Nat.le_of_lt hlt) rfl
        rw [← hS] at he
        clear hS hA hB hx1 hx2
        go_wp2_with fail
        refine (he w2 hv2 hu).mono ?_
        rintro e w3 ⟨rfl, nd, rfl⟩
        go_wp2
        go_ret
        exact ⟨rfl, below_drewN hb2 nd⟩
      · have hlt' : (xs.length : Int) ≤ (ys.length : Int) := by omega
        simp only [hlt, decide_false, Bool.false_and] at hS
        subst hS
        clear hA hB hx1 hx2
        go_wp2
        go_ret
        exact ⟨rfl, hb2⟩
    · have hS := under_none' (a := bs a) hB
      rw [HQ.out] at hS
      subst hS
      clear hA hB hx1 hx2
      go_wp2
      go_ret
      exact ⟨rfl, hb2⟩
  · have hS := under_none (b := bs b) hA
    rw [HQ.out] at hS
    subst hS
    clear hA hx1 hx2
    go_wp2
    go_ret
    exact ⟨rfl, hb2⟩

theorem lives_any (w : World) (hR : Room w) : Calls Tryd.prog 12 #[] w fun e w' => e = .returned (.bool true) ∧ Below w.heap.size w w' := by
  go_enter Tryd.func12, Tryd.ntmps12
  go_wp2_with fail
  refine (splitR w ⟨#[47, 97, 47, 98]⟩ hR (by decide)).mono ?_
  rintro e w1 ⟨⟨v, er, xs, rfl, hv, hA⟩, hb1⟩
  have hR1 := hR.below (Nat.le_refl _) hb1
  have hxs : splitP (bs ⟨#[47, 97, 47, 98]⟩) = some [[97], [98]] := by decide
  obtain ⟨hA2, rfl⟩ : splitP (bs ⟨#[47, 97, 47, 98]⟩) = some (texts xs) ∧ er = 0 := by
    rcases hA with h | ⟨h, _⟩
    · exact h
    · rw [hxs] at h; cases h
  have hlen : xs.length = 2 := by
    have h2 := hxs.symm.trans hA2
    have := congrArg (Option.map List.length) h2
    simpa [texts] using this.symm
  obtain ⟨ao, cap, rfl, _, _, _⟩ := hv
  rw [hlen]
  clear hA hA2 hxs hlen
  have hc1 := fun w => check_any w ⟨#[97]⟩
  rw [show errOf (bs ⟨#[97]⟩) = 0 by decide] at hc1
  have hc2 := fun w => check_any w ⟨#[]⟩
  rw [show errOf (bs ⟨#[]⟩) = 9 by decide] at hc2
  go_wp2_with fail
  refine (hc1 w1).mono ?_
  rintro e w2 ⟨rfl, hb2⟩
  have hR2 := hR1.below (Nat.le_refl _) hb2
  have hb2' := hb1.trans (hb2.mono hb1.size)
  go_wp2_with fail
  refine (hc2 w2).mono ?_
  rintro e w3 ⟨rfl, hb3⟩
  have hR3 := hR2.below (Nat.le_refl _) hb3
  have hb3' := hb2'.trans (hb3.mono hb2'.size)
  have hun := under_any w3 ⟨#[47, 97, 47, 98]⟩ ⟨#[47, 97]⟩ hR3 (by decide) (by decide)
  rw [show underB (bs ⟨#[47, 97, 47, 98]⟩) (bs ⟨#[47, 97]⟩) = true by decide] at hun
  go_wp2_with fail
  refine hun.mono ?_
  rintro e w4 ⟨rfl, hb4⟩
  go_wp2
  go_ret
  exact ⟨rfl, hb3'.trans (hb4.mono hb3'.size)⟩
end Go.Proofs.YtapmjchlkaicpaaDoor
