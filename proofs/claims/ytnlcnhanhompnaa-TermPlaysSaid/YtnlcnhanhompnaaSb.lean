/- The walk of the law TermSafe. -/
import Derived.Test.YtnlcnhanhompnaaSa
namespace Go.Proofs.Ytnlcnhanhompnaa
open Go.RowKit Go.Tn

/-- A list of numbers that came in. -/
def IntsIn (w : World) (ao : Option Addr) (len : Nat) (zs : Nat → Int) : Prop := 0 < len → ∃ b off, ao = some ⟨b, off, none⟩ ∧ b < w.heap.size ∧ ∀ i, i < len → w.cell? ⟨b, off + i, none⟩ = some (.int .i64 (zs i))

/-- Where the loop stands. -/
structure Stand (w0 w : World) (t r ba b m : Nat) (H : Heard) (now server mine theirs sent u : Nat) (heard : Bool) (i : Nat) : Prop where
  le : LeaseAt w ba t u
  wa : ∃ L clk, WatchAt w b m (t * r) L clk H
  sf : Safe t r H now server mine theirs sent u heard
  bel : Below w0.heap.size w0 w
  nw : now ≤ i
  sv : server ≤ i

theorem Stand.up {w0 w : World} {t r ba b m : Nat} {H : Heard} {now server mine theirs sent u : Nat} {heard : Bool} {i : Nat} (h : Stand w0 w t r ba b m H now server mine theirs sent u heard i) : Stand w0 w t r ba b m H now server mine theirs sent u heard (i + 1) :=
  ⟨h.le, h.wa, h.sf, h.bel, by have := h.nw; omega, by have := h.sv; omega⟩
theorem Stand.next {w0 w w' : World} {t r ba b m : Nat} {H : Heard} {now server mine theirs sent u : Nat} {heard : Bool} {i : Nat} (h : Stand w0 w t r ba b m H now server mine theirs sent u heard i) (hb : Below w.heap.size w w') : Stand w0 w' t r ba b m H now server mine theirs sent u heard i := by
  obtain ⟨L, clk, hW⟩ := h.wa
  exact ⟨h.le.mod (Mod.of_below hb) (by have := h.le.lt; omega), ⟨L, clk, hW.mod (Mod.of_below hb) (by have := lt_of_block hW.blk; omega) (by have := lt_of_block hW.map; omega)⟩, h.sf, h.bel.trans (hb.mono h.bel.size), h.nw, h.sv⟩
theorem Stand.hear {w0 w w' : World} {t r ba b m : Nat} {H : Heard} {now server mine theirs sent u : Nat} {heard : Bool} {i : Nat} (h : Stand w0 w t r ba b m H now server mine theirs sent u heard i) (hm : Mod (fun x => x = m) w w') (hw : ∃ L clk, WatchAt w' b m (t * r) L clk (hearH H 3 server)) (hne : ba ≠ m) (hB : w0.heap.size ≤ m) : Stand w0 w' t r ba b m (hearH H 3 server) now server mine theirs sent u true i :=
  ⟨h.le.mod hm hne, hw, h.sf.hear, h.bel.trans (hm.below h.bel.size (fun x hx e => by omega)), h.nw, h.sv⟩
theorem Stand.ack {w0 w w' : World} {t r ba b m : Nat} {H : Heard} {now server mine theirs sent u : Nat} {i : Nat} (h : Stand w0 w t r ba b m H now server mine theirs sent u true i) (hm : Mod (fun x => x = ba) w w') (hl : LeaseAt w' ba t (max u (sent + t))) (hne : b ≠ ba) (hne' : m ≠ ba) (hB : w0.heap.size ≤ ba) : Stand w0 w' t r ba b m H now server mine theirs sent (max u (sent + t)) true i := by
  obtain ⟨L, clk, hW⟩ := h.wa
  exact ⟨hl, ⟨L, clk, hW.mod hm hne hne'⟩, h.sf.ack, h.bel.trans (hm.below h.bel.size (fun x hx e => by omega)), h.nw, h.sv⟩

theorem late_stand {w0 w : World} {t r ba b m : Nat} {H : Heard} {now server mine theirs sent u : Nat} {heard : Bool} {i : Nat} (h : Stand w0 w t r ba b m H now server mine theirs sent u heard i) (hi : i ≤ 1000) :
    Calls Try.prog 12 #[.pointer (some ⟨b, 0, none⟩), .int .u64 server] w
      fun e w' => (∃ ao n cap, e = .returned (.slice ao n cap) ∧ (0 < n → ¬ (now < u ∧ now ≤ 1099511627775))) ∧ Stand w0 w' t r ba b m H now server mine theirs sent u heard i := by
  obtain ⟨L, clk, hW⟩ := h.wa
  have hsv := h.sv
  refine (late_ok w b m (t * r) clk L H hW server (by omega)).mono ?_
  rintro e w' ⟨⟨v, rfl, hsl⟩, hb⟩
  obtain ⟨ao, cap, rfl, _, _, _⟩ := hsl
  refine ⟨⟨ao, _, cap, rfl, fun h0 => h.sf.safe (fun e => ?_)⟩, h.next hb⟩
  rw [e] at h0
  simp [ints] at h0

set_option maxHeartbeats 8000000 in
set_option maxRecDepth 40000 in
theorem safe_walk (w : World) (x y : Int) (ao : Option Addr) (len cap : Nat) (zs : Nat → Int) (hz : IntsIn w ao len zs) (hlc : len ≤ cap) (hcm : cap ≤ maxLen) :
    Calls Try.prog 3 #[.int .i64 x, .int .i64 y, .slice ao len cap] w fun e w' => e = .returned (.bool true) ∧ Below w.heap.size w w' := by
  unfold maxLen at hcm
  go_enter Try.func3, Try.ntmps3
  go_wp2_with fail
  refine (within_any w x 12 (by decide)).mono ?_
  rintro e w' ⟨⟨t, ht1, ht2, rfl⟩, hw⟩
  obtain rfl := hw.symm
  clear hw
  go_wp2_with fail
  refine (within_any w y 4 (by decide)).mono ?_
  rintro e w' ⟨⟨r, hr1, hr2, rfl⟩, hw⟩
  obtain rfl := hw.symm
  clear hw
  have hmul : t * r ≤ 48 := Nat.le_trans (Nat.mul_le_mul ht2 hr2) (by decide)
  have hmul1 : 1 ≤ t * r := Nat.mul_pos ht1 hr1
  go_wp2_with fail
  refine (span_ok w t r ht1 (by omega) hr1 (by omega)).mono ?_
  rintro e w' ⟨rfl, hw⟩
  obtain rfl := hw.symm
  clear hw
  go_wp2_with fail
  refine (newLease_ok w t ht1 (by omega)).mono ?_
  rintro e w1 ⟨rfl, hL1, hb1⟩
  go_wp2_with fail
  refine (newWatch_ok w1 (t * r) hmul1 (by omega)).mono ?_
  rintro e w2 ⟨b, m, rfl, hW2, hbb, hmm, hb2⟩
  have hL2 : LeaseAt w2 w.heap.size t 0 := hL1.mod (Mod.of_below hb2) (by have := hL1.lt; omega)
  have hbl2 := hb1.trans (hb2.mono hb1.size)
  have hwb : w.heap.size < b := by have := hL1.lt; omega
  have hwm : w.heap.size < m := by have := hL1.lt; omega
  have hst : Stand w w2 t r w.heap.size b m (fun _ => none) 0 0 0 0 0 0 false 0 := ⟨hL2, ⟨_, _, hW2⟩, Safe.start t r, hbl2, Nat.le_refl _, Nat.le_refl _⟩
  clear hL1 hb1 hb2 hL2 hW2 hbl2 hbb hmm
  go_wp2
  go_loopw [13, 14, 15, 16, 17, 18, 19, 20] (fun a13 a14 a15 a16 a17 a18 a19 a20 wr => ∃ (H : Heard) (now server mine theirs sent u : Nat) (out heard : Bool) (i : Nat), i ≤ 600 ∧ a13 = .int .u64 now ∧ a14 = .int .u64 server ∧ a15 = .int .i64 mine ∧ a16 = .int .i64 theirs ∧ a17 = .int .u64 sent ∧ a18 = .bool out ∧ a19 = .bool heard ∧ a20 = .int .i64 i ∧ Stand w wr t r w.heap.size b m H now server mine theirs sent u heard i) (fun _ _ _ _ _ _ _ c _ => 600 - (intOf c).toNat)
  case atStart => exact ⟨_, 0, 0, 0, 0, 0, 0, false, false, 0, by omega, rfl, rfl, rfl, rfl, rfl, rfl, rfl, rfl, hst⟩
  case round =>
    clear hst
    obtain ⟨H, now, server, mine, theirs, sent, u, out, heard, i, hi, rfl, rfl, rfl, rfl, rfl, rfl, rfl, rfl, hS⟩ := hrel
    have hnw := hS.nw
    have hsv := hS.sv
    have hmr : (mine : Int) ≤ 4 := by have := hS.sf.mi; omega
    have htr : (theirs : Int) ≤ 4 := by have := hS.sf.th; omega
    by_cases hgo : i < len ∧ i < 600
    · obtain ⟨hil, hi6⟩ := hgo
      have hil' : (i : Int) < (len : Int) := by omega
      have hi6' : (i : Int) < 600 := by omega
      obtain ⟨bz, off, rfl, hbz, hcs⟩ := hz (by omega)
      have hcell : wr.cell? ⟨bz, off + i, none⟩ = some (.int .i64 (zs i)) := by rw [hS.bel.cell (p := ⟨bz, off + i, none⟩) hbz]; exact hcs i hil
      clear hcs hz
      generalize zs i = k at *
      obtain hk | hk | hk | hk | ⟨hk0, hk1, hk2, hk3⟩ : k = 0 ∨ k = 1 ∨ k = 2 ∨ k = 3 ∨ (k ≠ 0 ∧ k ≠ 1 ∧ k ≠ 2 ∧ k ≠ 3) := by omega
      case' inl =>
        subst hk
        by_cases hm : mine = r
        case pos =>
          have hmi : (mine : Int) = (r : Int) := by omega
          go_wp2
          exact ⟨⟨H, now, server, mine, theirs, sent, u, out, heard, i + 1, by omega, rfl, rfl, rfl, rfl, rfl, rfl, rfl, by go_num, hS.up⟩, by simp [intOf]; omega⟩
        case' neg =>
          have hmi : ((mine : Int) == (r : Int)) = false := by simp; omega
          have hS2 : Stand w wr t r w.heap.size b m H (now + 1) server (mine + 1) 0 sent u heard (i + 1) := ⟨hS.le, hS.wa, hS.sf.tickC hm, hS.bel, by omega, by omega⟩
          obtain ⟨nw, hnw2⟩ : ∃ nw, nw = now + 1 := ⟨_, rfl⟩
          have hc : (now : Int) + 1 = (nw : Int) := by omega
          rw [← hnw2] at hS2
          clear hS hnw2
          obtain ⟨sv, hsv2⟩ : ∃ sv, sv = server := ⟨_, rfl⟩
          subst hsv2
          go_wp2_with fail
      case' inr.inl =>
        subst hk
        by_cases hm : theirs = r
        case pos =>
          have hmi : (theirs : Int) = (r : Int) := by omega
          go_wp2
          exact ⟨⟨H, now, server, mine, theirs, sent, u, out, heard, i + 1, by omega, rfl, rfl, rfl, rfl, rfl, rfl, rfl, by go_num, hS.up⟩, by simp [intOf]; omega⟩
        case' neg =>
          have hmi : ((theirs : Int) == (r : Int)) = false := by simp; omega
          have hS2 : Stand w wr t r w.heap.size b m H now (server + 1) 0 (theirs + 1) sent u heard (i + 1) := ⟨hS.le, hS.wa, hS.sf.tickS hm, hS.bel, by omega, by omega⟩
          obtain ⟨sv, hsv2⟩ : ∃ sv, sv = server + 1 := ⟨_, rfl⟩
          have hc : (server : Int) + 1 = (sv : Int) := by omega
          rw [← hsv2] at hS2
          clear hS hsv2
          obtain ⟨nw, hnw2⟩ : ∃ nw, nw = now := ⟨_, rfl⟩
          subst hnw2
          go_wp2_with fail
      case' inr.inr.inl =>
        subst hk
        have hS2 : Stand w wr t r w.heap.size b m H now server mine theirs now u false (i + 1) := ⟨hS.le, hS.wa, hS.sf.send, hS.bel, by omega, by omega⟩
        clear hS
        obtain ⟨nw, hnw2⟩ : ∃ nw, nw = now := ⟨_, rfl⟩
        subst hnw2
        obtain ⟨sv, hsv2⟩ : ∃ sv, sv = server := ⟨_, rfl⟩
        subst hsv2
        go_wp2_with fail
      case' inr.inr.inr.inl =>
        subst hk
        obtain ⟨nw, hnw2⟩ : ∃ nw, nw = now := ⟨_, rfl⟩
        subst hnw2
        obtain ⟨sv, hsv2⟩ : ∃ sv, sv = server := ⟨_, rfl⟩
        subst hsv2
        cases out
        case' false =>
          have hS2 := hS.up
          clear hS
          go_wp2_with fail
        case' true =>
          obtain ⟨L0, clk0, hW0⟩ := hS.wa
          go_wp2_with fail
          refine (hear_ok wr b m (t * r) clk0 L0 H hW0 3 sv (by decide) (by omega)).mono ?_
          rintro e w3 ⟨rfl, hW3, hm3⟩
          have hS2 := (hS.hear hm3 hW3 (by omega) (by omega)).up
          clear hS hW0 hW3 hm3
          go_wp2_with fail
      case' inr.inr.inr.inr =>
        obtain ⟨nw, hnw2⟩ : ∃ nw, nw = now := ⟨_, rfl⟩
        subst hnw2
        obtain ⟨sv, hsv2⟩ : ∃ sv, sv = server := ⟨_, rfl⟩
        subst hsv2
        cases heard
        case' false =>
          have hS2 := hS.up
          clear hS
          go_wp2_with fail
        case' true =>
          have hsn := hS.sf.sn
          go_wp2_with fail
          refine (ack_ok wr w.heap.size t u hS.le sent (by omega)).mono ?_
          rintro e w3 ⟨rfl, hL3, hm3⟩
          have hS2 := (hS.ack hm3 hL3 (by omega) (by omega) (by omega)).up
          clear hS hL3 hm3
          go_wp2_with fail
      all_goals
        refine (late_stand hS2 (by omega)).mono ?_
        rintro e w4 ⟨⟨ao4, n4, cap4, rfl, hn4⟩, hS4⟩
        clear hS2
        by_cases h0 : 0 < n4
        case' pos =>
          have h0' : (0 : Int) < (n4 : Int) := by omega
          have hlv := live_any w4 w.heap.size t _ hS4.le nw
          rw [decide_eq_false (hn4 h0)] at hlv
          clear hn4
          go_wp2_with fail
          refine hlv.mono ?_
          rintro e w5 ⟨rfl, hw⟩
          obtain rfl := hw.symm
          clear hw
        case' neg =>
          obtain rfl : n4 = 0 := by omega
          clear hn4
        all_goals
          go_wp2
          refine ⟨⟨_, nw, sv, _, _, _, _, _, _, i + 1, by omega, ?_, ?_, ?_, ?_, ?_, rfl, ?_, ?_, hS4⟩, by simp [intOf]; omega⟩ <;> first | rfl | go_num
    · have hbl := hS.bel
      by_cases hil : i < len
      case' pos =>
        have hil' : (i : Int) < (len : Int) := by omega
        have hi6' : (600 : Int) ≤ (i : Int) := by omega
      case' neg =>
        have hil' : (len : Int) ≤ (i : Int) := by omega
        have hi6' : True := trivial
      all_goals
        clear hgo hS hnw hsv
        go_wp2_with fail
        refine (lives_any wr).mono ?_
        rintro e w3 ⟨rfl, hb3⟩
        go_wp2
        go_ret
        exact ⟨rfl, hbl.trans (hb3.mono hbl.size)⟩
end Go.Proofs.Ytnlcnhanhompnaa
