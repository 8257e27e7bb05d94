/- The law TermSafe: the plain part, and its smaller walks. -/
import Derived.Test.YtnlcnhanhompnaaWe
namespace Go.Proofs.Ytnlcnhanhompnaa
open Go.RowKit Go.Tn

/-- What holds between the two clocks, the lease and what was heard of client 3. -/
structure Safe (t r : Nat) (H : Heard) (now server mine theirs sent u : Nat) (heard : Bool) : Prop where
  th : theirs ≤ r
  mi : mine ≤ r
  sn : sent ≤ now
  oth : ∀ c, c ≠ 3 → H c = none
  no : H 3 = none → u = 0 ∧ heard = false
  yes : ∀ h, H 3 = some h → ∃ D, D ≤ now ∧ h ≤ server ∧ server ≤ h + r * D + theirs ∧ u + D ≤ now + t ∧ (heard = true → sent + D ≤ now)

theorem Safe.start (t r : Nat) : Safe t r (fun _ => none) 0 0 0 0 0 0 false :=
  ⟨Nat.zero_le _, Nat.zero_le _, Nat.le_refl _, fun _ _ => rfl, fun _ => ⟨rfl, rfl⟩, fun h hh => by cases hh⟩
theorem Safe.tickC {t r : Nat} {H : Heard} {now server mine theirs sent u : Nat} {heard : Bool} (h : Safe t r H now server mine theirs sent u heard) (hm : mine ≠ r) : Safe t r H (now + 1) server (mine + 1) 0 sent u heard :=
  ⟨Nat.zero_le _, by have := h.mi; omega, by have := h.sn; omega, h.oth, h.no, fun x hx => by
    obtain ⟨D, h1, h2, h3, h4, h5⟩ := h.yes x hx
    have := h.th
    refine ⟨D + 1, by omega, h2, ?_, by omega, fun hh => by have := h5 hh; omega⟩
    rw [Nat.mul_succ]
    omega⟩
theorem Safe.tickS {t r : Nat} {H : Heard} {now server mine theirs sent u : Nat} {heard : Bool} (h : Safe t r H now server mine theirs sent u heard) (hm : theirs ≠ r) : Safe t r H now (server + 1) 0 (theirs + 1) sent u heard :=
  ⟨by have := h.th; omega, Nat.zero_le _, h.sn, h.oth, h.no, fun x hx => by
    obtain ⟨D, h1, h2, h3, h4, h5⟩ := h.yes x hx
    exact ⟨D, h1, by omega, by omega, h4, h5⟩⟩
theorem Safe.send {t r : Nat} {H : Heard} {now server mine theirs sent u : Nat} {heard : Bool} (h : Safe t r H now server mine theirs sent u heard) : Safe t r H now server mine theirs now u false :=
  ⟨h.th, h.mi, Nat.le_refl _, h.oth, fun hn => ⟨(h.no hn).1, rfl⟩, fun x hx => by
    obtain ⟨D, h1, h2, h3, h4, h5⟩ := h.yes x hx
    exact ⟨D, h1, h2, h3, h4, (fun hh => by cases hh)⟩⟩
theorem Safe.hear {t r : Nat} {H : Heard} {now server mine theirs sent u : Nat} {heard : Bool} (h : Safe t r H now server mine theirs sent u heard) : Safe t r (hearH H 3 server) now server mine theirs sent u true := by
  have hold : max ((H 3).getD 0) server = server := by
    cases hH : H 3 with
    | none => simp
    | some x =>
      obtain ⟨D, _, h2, _⟩ := h.yes x hH
      simp only [Option.getD_some]
      omega
  refine ⟨h.th, h.mi, h.sn, fun c hc => ?_, fun hn => ?_, fun x hx => ?_⟩
  · unfold hearH; rw [if_neg hc]; exact h.oth c hc
  · unfold hearH at hn; rw [if_pos rfl] at hn; cases hn
  · unfold hearH at hx
    rw [if_pos rfl, hold] at hx
    cases hx
    refine ⟨0, Nat.zero_le _, Nat.le_refl _, by omega, ?_, fun _ => by have := h.sn; omega⟩
    cases hH : H 3 with
    | none => have := (h.no hH).1; omega
    | some y =>
      obtain ⟨D, _, _, _, h4, _⟩ := h.yes y hH
      omega
theorem Safe.ack {t r : Nat} {H : Heard} {now server mine theirs sent u : Nat} (h : Safe t r H now server mine theirs sent u true) : Safe t r H now server mine theirs sent (max u (sent + t)) true :=
  ⟨h.th, h.mi, h.sn, h.oth, (fun hn => by have := (h.no hn).2; cases this), fun x hx => by
    obtain ⟨D, h1, h2, h3, h4, h5⟩ := h.yes x hx
    have := h5 rfl
    exact ⟨D, h1, h2, h3, by omega, h5⟩⟩
/-- Who is late has no lease that lives. -/
theorem Safe.safe {t r : Nat} {H : Heard} {now server mine theirs sent u : Nat} {heard : Bool} (h : Safe t r H now server mine theirs sent u heard) (hl : lateH H (t * r) server ≠ []) : ¬ (now < u ∧ now ≤ 1099511627775) := by
  obtain ⟨c, hc⟩ := List.exists_mem_of_ne_nil _ hl
  obtain ⟨hk, hL⟩ := List.mem_filter.1 hc
  obtain ⟨_, x, hx⟩ := keysH_lt hk
  have h3 : c = 3 := by
    by_cases e : c = 3
    · exact e
    · rw [h.oth c e] at hx; cases hx
  subst h3
  unfold isLate at hL
  rw [hx] at hL
  simp only [Bool.and_eq_true, decide_eq_true_eq] at hL
  obtain ⟨D, h1, h2, h4, h5, _⟩ := h.yes x hx
  have hth := h.th
  have hlt : r * t < r * (D + 1) := by
    rw [Nat.mul_succ, Nat.mul_comm r t]
    omega
  have : t < D + 1 := Nat.lt_of_mul_lt_mul_left hlt
  omega

theorem within_any (w : World) (x : Int) (hi : Nat) (hh : 1 ≤ hi) : Calls Try.prog 6 #[.int .i64 x, .int .i64 1, .int .i64 hi] w fun e w' => (∃ k : Nat, 1 ≤ k ∧ k ≤ hi ∧ e = .returned (.int .i64 k)) ∧ w' = w := by
  by_cases h1 : x < 1
  · go_enter Try.func6, Try.ntmps6
    go_wp2
    go_ret
    exact ⟨⟨1, by omega, by omega, rfl⟩, rfl⟩
  · by_cases h2 : (hi : Int) < x
    · go_enter Try.func6, Try.ntmps6
      go_wp2
      go_ret
      exact ⟨⟨hi, by omega, by omega, rfl⟩, rfl⟩
    · obtain ⟨k, rfl⟩ := Int.eq_ofNat_of_zero_le (show 0 ≤ x by omega)
      have h3 : k ≤ hi := by omega
      have h4 : 1 ≤ k := by omega
      go_enter Try.func6, Try.ntmps6
      go_wp2
      go_ret
      exact ⟨⟨k, h4, h3, rfl⟩, rfl⟩

set_option maxRecDepth 20000 in
theorem lives_any (w : World) : Calls Try.prog 14 #[] w fun e w' => e = .returned (.bool true) ∧ Below w.heap.size w w' := by
  have hlate : ints (lateH (hearH (fun _ => none) 1 3) 15 19) = [1] := by decide
  go_enter Try.func14, Try.ntmps14
  go_wp2_with fail
  refine (span_ok w 5 3 (by decide) (by decide) (by decide) (by decide)).mono ?_
  rintro e w ⟨rfl, rfl⟩
  go_wp2_with fail
  refine (newLease_ok w 5 (by decide) (by decide)).mono ?_
  rintro e w1 ⟨rfl, hL1, hb1⟩
  go_wp2_with fail
  refine (newWatch_ok w1 15 (by decide) (by decide)).mono ?_
  rintro e w2 ⟨b, m, rfl, hW2, hbb, hmm, hb2⟩
  have hL2 : LeaseAt w2 w.heap.size 5 0 := hL1.mod (Mod.of_below hb2) (by have := hL1.lt; omega)
  have hbl2 := hb1.trans (hb2.mono hb1.size)
  have h1s := hb1.size
  have hlt := hL1.lt
  clear hL1 hb1 hb2
  go_wp2_with fail
  refine (ack_ok w2 w.heap.size 5 0 hL2 2 (by decide)).mono ?_
  rintro e w3 ⟨rfl, hL3, hm3⟩
  have hW3 := hW2.mod hm3 (by omega) (by omega)
  have hbl3 := hbl2.trans (hm3.below hbl2.size (fun x hx e => by omega))
  clear hL2 hW2 hm3 hbl2
  go_wp2_with fail
  refine (live_any w3 w.heap.size 5 _ hL3 6).mono ?_
  rintro e w' ⟨rfl, hw⟩
  obtain rfl := hw.symm
  clear hw
  go_wp2_with fail
  refine (live_any w3 w.heap.size 5 _ hL3 7).mono ?_
  rintro e w' ⟨rfl, hw⟩
  obtain rfl := hw.symm
  clear hw
  go_wp2_with fail
  refine (hear_ok w3 b m 15 0 [] _ hW3 1 3 (by decide) (by decide)).mono ?_
  rintro e w4 ⟨rfl, ⟨L', clk', hW4⟩, hm4⟩
  have hbl4 := hbl3.trans (hm4.below hbl3.size (fun x hx e => by omega))
  go_wp2_with fail
  refine (late_ok w4 b m 15 clk' L' _ hW4 19 (by decide)).mono ?_
  rintro e w5 ⟨⟨v, rfl, hsl⟩, hb5⟩
  rw [hlate] at hsl
  obtain ⟨ao, cap, rfl, _, _, _⟩ := hsl
  go_wp2
  go_ret
  exact ⟨rfl, hbl4.trans (hb5.mono hbl4.size)⟩
end Go.Proofs.Ytnlcnhanhompnaa
