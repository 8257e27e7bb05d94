/- 'Same' of two lists of bytes. -/
import Derived.Test.YtghfaiojmpchgaaRb
namespace Go.Proofs.Ytghfaiojmpchgaa
open Go.RowKit Go.Tn Go.Tn.Bits

/-- A slice of bytes that can be read. -/
def ByteSl (w : World) (v : Value) (xs : List Int) : Prop :=
  ∃ ao cap, v = .slice ao xs.length cap ∧ xs.length ≤ maxLen ∧ (0 < xs.length → ∃ b off, ao = some ⟨b, off, none⟩ ∧ ∀ (i : Nat) (x : Int), xs[i]? = some x → w.cell? ⟨b, off + i, none⟩ = some (.int .u8 x))

theorem ByteSl.drewN {w : World} {v : Value} {xs : List Int} (h : ByteSl w v xs) (n : Nat) : ByteSl (w.drewN n) v xs := h

set_option maxHeartbeats 1000000 in
theorem same_any (w : World) (u v : Value) (xs ys : List Int) (hu : ByteSl w u xs) (hv : ByteSl w v ys) :
    Calls Try.prog 22 #[u, v] w fun e w' => e = .returned (.bool (decide (xs = ys))) ∧ ∃ n, w' = w.drewN n := by
  obtain ⟨ao, cap, rfl, hmx, hx⟩ := hu
  obtain ⟨ao', cap', rfl, hmy, hy⟩ := hv
  unfold maxLen at hmx hmy
  by_cases hlen : xs.length = ys.length
  · have t1 : ((xs.length : Int) != (ys.length : Int)) = false := by simp [hlen]
    have HL := Lib.hid hlen
    clear hlen
    go_enter Try.func22, Try.ntmps22
    go_wp2
    go_loopw [5] (fun c wr => ∃ k : Nat, k ≤ xs.length ∧ c = .int .i64 k ∧ xs.take k = ys.take k ∧ ∃ n, wr = w.drewN n) (fun c _ => xs.length - (intOf c).toNat)
    case atStart => exact ⟨0, Nat.zero_le _, rfl, rfl, 0, rfl⟩
    case round =>
      obtain ⟨k, hk, rfl, htk, nd, rfl⟩ := hrel
      by_cases hlt : k < xs.length
      · have hlty : k < ys.length := by have := HL.out; omega
        obtain ⟨b, off, rfl, hcx⟩ := hx (by omega)
        obtain ⟨b', off', rfl, hcy⟩ := hy (by omega)
        have c1 := hcx k xs[k] (List.getElem?_eq_getElem hlt)
        have c2 := hcy k ys[k] (List.getElem?_eq_getElem hlty)
        have k1 : (k : Int) < (xs.length : Int) := by omega
        have k2 : (k : Int) < (ys.length : Int) := by omega
        have e1 := List.take_succ_eq_append_getElem hlt
        have e2 := List.take_succ_eq_append_getElem hlty
        have HT := Lib.hid htk
        by_cases hxy : xs[k] = ys[k]
        · have HN := Lib.hid (show xs.take (k + 1) = ys.take (k + 1) by rw [e1, e2, htk, hxy])
          have t2 : (xs[k] != ys[k]) = false := by simpa using hxy
          clear hcx hcy e1 e2 htk hxy hx hy
          generalize xs[k] = x at *
          generalize ys[k] = y at *
          go_wp2
          go_quiet (fail)
          go_wp2
          go_roundw
          case rel => exact ⟨k + 1, by omega, by go_num, HN.out, nd + nq, by first | rfl | rw [World.drewN_drewN]⟩
          case measure => simp [intOf]; omega
        · have HN := Lib.hid (show decide (xs = ys) = false by
            simp; intro h; subst h; exact hxy rfl)
          have t2 : (xs[k] != ys[k]) = true := by simpa using hxy
          clear hcx hcy e1 e2 htk hxy hx hy
          generalize xs[k] = x at *
          generalize ys[k] = y at *
          go_wp2
          go_quiet (fail)
          go_wp2
          go_ret
          exact ⟨by rw [HN.out]; rfl, nd + nq, by first | rfl | rw [World.drewN_drewN]⟩
      · have HN := Lib.hid (show decide (xs = ys) = true by
          have hl := HL.out
          rw [List.take_of_length_le (by omega), List.take_of_length_le (by omega)] at htk
          simpa using htk)
        go_wp2
        go_ret
        exact ⟨by rw [HN.out]; rfl, nd, rfl⟩
  · have t1 : ((xs.length : Int) != (ys.length : Int)) = true := by simp; omega
    have HN := Lib.hid (show decide (xs = ys) = false by simp; intro h; subst h; exact hlen rfl)
    clear hlen
    go_enter Try.func22, Try.ntmps22
    go_wp2
    go_ret
    exact ⟨by rw [HN.out]; rfl, 0, rfl⟩

/-- The bytes of a map, as a list. -/
def byteList (T : Nat → Bool) : List Int := (List.range 128).map fun i => (by8 T i : Int)
theorem ByteSl.of {w : World} {b : Nat} {T : Nat → Bool} (h : w.heap[b]? = some (.cells (bytesArr T) 5 (0, 0))) : ByteSl w (.slice (some ⟨b, 0, none⟩) 128 128) (byteList T) := by
  refine ⟨some ⟨b, 0, none⟩, 128, by rw [show (byteList T).length = 128 by simp [byteList]], by unfold maxLen; simp [byteList], fun _ => ⟨b, 0, rfl, fun i x hi => ?_⟩⟩
  have hl : i < 128 := by
    have := List.getElem?_eq_some_iff.1 hi
    obtain ⟨h1, _⟩ := this
    simpa [byteList] using h1
  rw [Nat.zero_add]
  refine cell_of h ?_
  rw [bytesArr_get T hl]
  simp [byteList, hl] at hi
  rw [hi]

end Go.Proofs.Ytghfaiojmpchgaa
