/- Load, by the document. -/
import Derived.Test.YtghfaiojmpchgaaLa
namespace Go.Proofs.Ytghfaiojmpchgaa
open Go.RowKit Go.Tn Go.Tn.Bits

theorem by8_bit (T : Nat → Bool) (i : Nat) : by8 T (i / 8) / 2 ^ (7 - i % 8) % 2 = (T i).toNat := by
  have h := testBit_num (fun j => T (8 * (i / 8) + j)) 8 (7 - i % 8)
  rw [Nat.testBit_eq_decide_div_mod_eq, show 8 - 1 - (7 - i % 8) = i % 8 by omega, show 8 * (i / 8) + i % 8 = i by omega] at h
  have h7 : 7 - i % 8 < 8 := by omega
  simp only [h7, decide_true, Bool.true_and] at h
  show num (fun j => T (8 * (i / 8) + j)) 8 / 2 ^ (7 - i % 8) % 2 = _
  cases hT : T i
  · rw [hT] at h
    have := of_decide_eq_false h
    show _ = 0
    omega
  · rw [hT] at h
    exact of_decide_eq_true h

set_option maxHeartbeats 4000000 in
set_option maxRecDepth 20000 in
theorem rLoad_any (w : World) (ao : Option Addr) (cap : Nat) (T : Nat → Bool) (hB : BytesIn w ao T) (hT : ∀ i, 1024 ≤ i → T i = false) (n : Nat) (h1 : 1 ≤ n) (h2 : n ≤ 1024) :
    Calls Try.prog 27 #[.slice ao 128 cap, .int .i64 n] w fun e w' =>
      ((∀ j, j < 1024 → n ≤ j → T j = false) → ∃ b bt, e = .returned (.tuple #[.pointer (some ⟨b, 0, none⟩), .int .i64 0]) ∧ RAt w' b bt n T ∧ w.heap.size ≤ b ∧ w.heap.size ≤ bt) ∧ ((¬ ∀ j, j < 1024 → n ≤ j → T j = false) → e = .returned (.tuple #[.pointer none, .int .i64 4])) ∧ Below w.heap.size w w' := by
  obtain ⟨bb, off, rfl, hbb, hcs⟩ := hB
  go_enter Try.func27, Try.ntmps27
  go_wp2_with fail
  refine (rNew_any w n h1 h2).mono ?_
  rintro e w1 ⟨b, bt, rfl, hR, hb, hbt, hbl⟩
  go_wp2
  go_loopw [8] (fun c wr => ∃ k : Nat, k ≤ 1024 ∧ c = .int .i64 k ∧ RAt wr b bt n (cut T k) ∧ (∀ j, j < k → n ≤ j → T j = false) ∧ Below w.heap.size w wr) (fun c _ => 1024 - (intOf c).toNat)
  case atStart => exact ⟨0, Nat.zero_le _, rfl, by rw [show cut T 0 = fun _ => false by funext j; simp [cut]]; exact hR, fun j hj => by omega, hbl⟩
  case round =>
    obtain ⟨k, hk, rfl, hRr, hz, hbr⟩ := hrel
    by_cases hlt : k < 1024
    · have hlt' : (k : Int) < 1024 := by omega
      have hc := hcs (k / 8) (by omega)
      have hcr : wr.cell? ⟨bb, off + k / 8, none⟩ = some (.int .u8 (by8 T (k / 8))) := by rw [hbr.cell (p := ⟨bb, off + k / 8, none⟩) hbb]; exact hc
      have hbit := by8_bit T k
      have hs0 : (0 : Int) ≤ 7 - (k : Int) % 8 := by omega
      have hs1 : 7 - (k : Int) % 8 ≤ 8 := by omega
      have h8 := by8_lt T (k / 8)
      have hcut := cut_succ T k
      have hq : (k : Int) / 8 < 128 := by omega
      clear hc hcs
      generalize by8 T (k / 8) = x at *
      have hval : (((x : Nat) : Int) / (2 : Int) ^ (7 - k % 8)).tmod 2 = (((T k).toNat : Nat) : Int) := by
        have e : ((x : Nat) : Int) / (2 : Int) ^ (7 - k % 8) = ((x / 2 ^ (7 - k % 8) : Nat) : Int) := by rw [Int.natCast_ediv, Int.natCast_pow]; rfl
        rw [e, Int.tmod_eq_emod_of_nonneg (Int.natCast_nonneg _), ← hbit, Int.natCast_emod]
        rfl
      have c := hRr.c0
      clear hbit
      cases hv : T k
      · rw [hv] at hcut hval
        simp only [Bool.false_eq_true, if_false] at hcut
        replace hval : (((x : Nat) : Int) / (2 : Int) ^ (7 - k % 8)).tmod 2 = 0 := hval
        have HC := Lib.hid hcut
        have HZ := Lib.hid (show ∀ j, j < k + 1 → n ≤ j → T j = false from fun j hj hn => by
          by_cases h : j = k
          · rw [h, hv]
          · exact hz j (by omega) hn)
        clear hv hz hcut
        go_wp2
        go_roundw
        case rel => exact ⟨k + 1, by omega, by go_num, by rw [HC.out]; exact hRr, HZ.out, hbr⟩
        case measure => simp [intOf]; omega
      · rw [hv] at hcut hval
        simp only [if_true] at hcut
        replace hval : (((x : Nat) : Int) / (2 : Int) ^ (7 - k % 8)).tmod 2 = 1 := hval
        by_cases hkn : k < n
        · have hkn' : (k : Int) < (n : Int) := by omega
          have HC := Lib.hid hcut
          have HZ := Lib.hid (show ∀ j, j < k + 1 → n ≤ j → T j = false from fun j hj hn => hz j (by omega) hn)
          have ct := hRr.bools.cell hkn
          have hf := hRr.bools.free (o := k)
          have HR := Lib.hid (hRr.set hkn true)
          clear hv hz hcut
          go_wp2
          go_roundw
          case rel => exact ⟨k + 1, by omega, by go_num, by rw [HC.out]; exact HR.out, HZ.out, hbr.setCell (by omega) _⟩
          case measure => simp [intOf]; omega
        · have hkn' : (n : Int) ≤ (k : Int) := by omega
          have HN := Lib.hid (show ¬ ∀ j, j < 1024 → n ≤ j → T j = false from fun h => by
            have := h k hlt (by omega)
            rw [hv] at this; cases this)
          clear hv hz hcut
          go_wp2
          go_ret2
          exact ⟨fun h => absurd h HN.out, fun _ => rfl, hbr⟩
    · obtain rfl : k = 1024 := by omega
      have HE := Lib.hid (show cut T 1024 = T by
        funext j
        unfold cut
        by_cases h : j < 1024
        · simp [h]
        · simp [h, hT j (by omega)])
      have HZ := Lib.hid hz
      clear hz
      go_wp2
      go_ret2
      exact ⟨fun _ => ⟨b, bt, rfl, by rw [← HE.out]; exact hRr, hb, hbt⟩, fun h => absurd HZ.out h, hbr⟩
end Go.Proofs.Ytghfaiojmpchgaa
