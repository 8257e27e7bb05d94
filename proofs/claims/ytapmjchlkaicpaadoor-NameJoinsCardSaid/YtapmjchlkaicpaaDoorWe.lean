/- Whether two lists of texts are the same; what lies below what; whether any text is a name at all. -/
import Derived.Test.YtapmjchlkaicpaaDoorWd
namespace Go.Proofs.YtapmjchlkaicpaaDoor
open Go.RowKit Go.Tn Go.Tn.Names

theorem bs_inj {a b : ByteArray} (h : bs a = bs b) : a = b := by
  cases a; cases b
  congr 1
  exact Array.toList_inj.1 h
theorem texts_inj {xs ys : List ByteArray} (h : texts xs = texts ys) : xs = ys := by
  induction xs generalizing ys with
  | nil => cases ys with
    | nil => rfl
    | cons => simp [texts] at h
  | cons x xs ih => cases ys with
    | nil => simp [texts] at h
    | cons y ys =>
      simp only [texts, List.map_cons, List.cons.injEq] at h
      rw [bs_inj h.1, ih h.2]

set_option maxHeartbeats 1000000 in
theorem same_any (w : World) (u v : Value) (xs ys : List ByteArray) (hu : TextSl w u xs) (hv : TextSl w v ys) :
    Calls Tryd.prog 11 #[u, v] w fun e w' => e = .returned (.bool (decide (xs = ys))) ∧ ∃ n, w' = w.drewN n := by
  obtain ⟨ao, cap, rfl, hlx, hmx, hx⟩ := hu
  obtain ⟨ao', cap', rfl, hly, hmy, hy⟩ := hv
  unfold maxLen at hmx hmy
  by_cases hlen : xs.length = ys.length
  · have t1 : ((xs.length : Int) != (ys.length : Int)) = false := by simp [hlen]
    have HL := Lib.hid hlen
    clear hlen
    go_enter Tryd.func11, Tryd.ntmps11
    go_wp2
    go_loopw [5] (fun c wr => ∃ k : Nat, k ≤ xs.length ∧ c = .int .i64 k ∧ xs.take k = ys.take k ∧ ∃ n, wr = w.drewN n) (fun c _ => xs.length - (intOf c).toNat)
    case atStart => exact ⟨0, Nat.zero_le _, rfl, rfl, 0, rfl⟩
    case round =>
      obtain ⟨k, hk, rfl, htk, nd, rfl⟩ := hrel
      by_cases hlt : k < xs.length
      · have hlty : k < ys.length := by have := HL.out; omega
        obtain ⟨b, off, rfl, _, hcx⟩ := hx (by omega)
        obtain ⟨b', off', rfl, _, hcy⟩ := hy (by omega)
        have c1 := hcx k xs[k] (List.getElem?_eq_getElem hlt)
        have c2 := hcy k ys[k] (List.getElem?_eq_getElem hlty)
        have k1 : (k : Int) < (xs.length : Int) := by omega
        have k2 : (k : Int) < (ys.length : Int) := by omega
        have e1 := List.take_succ_eq_append_getElem hlt
        have e2 := List.take_succ_eq_append_getElem hlty
        by_cases hxy : xs[k] = ys[k]
        · have HN := Lib.hid (show xs.take (k + 1) = ys.take (k + 1) by rw [e1, e2, htk, hxy])
          have t2 : (xs[k].toList == ys[k].toList) = true := by rw [hxy]; simp
          clear hcx hcy e1 e2 htk hxy hx hy
          generalize xs[k] = x at *
          generalize ys[k] = y at *
          go_wp2
          go_quiet (fail)
          go_wp2
          go_roundw
          case rel => exact ⟨k + 1, by omega, by go_num, HN.out, nd + nq, by first | rfl | rw [World.drewN_drewN]⟩
          case measure => simp [intOf]; omega
        · have HN := Lib.hid (show decide (xs = ys) = false by
            simp; intro h; subst h; exact hxy rfl)
          have t2 : (xs[k].toList == ys[k].toList) = false := by
            rw [bs_eq, bs_eq]
            cases hc : (bs xs[k] == bs ys[k]) with
            | false => rfl
            | true => exact absurd (bs_inj (eq_of_beq hc)) hxy
          clear hcx hcy e1 e2 htk hxy hx hy
          generalize xs[k] = x at *
          generalize ys[k] = y at *
          go_wp2
          go_quiet (fail)
          go_wp2
          go_ret
          exact ⟨by rw [HN.out]; rfl, nd + nq, by first | rfl | rw [World.drewN_drewN]⟩
      · have HN := Lib.hid (show decide (xs = ys) = true by
          have hl := HL.out
          rw [List.take_of_length_le (by omega), List.take_of_length_le (by omega)] at htk
          simpa using htk)
        go_wp2
        go_ret
        exact ⟨by rw [HN.out]; rfl, nd, rfl⟩
  · have t1 : ((xs.length : Int) != (ys.length : Int)) = true := by simp; omega
    have HN := Lib.hid (show decide (xs = ys) = false by simp; intro h; subst h; exact hlen rfl)
    clear hlen
    go_enter Tryd.func11, Tryd.ntmps11
    go_wp2
    go_ret
    exact ⟨by rw [HN.out]; rfl, 0, rfl⟩

/-- The library's own comparison, of a prefix with a list. -/
theorem equal_any (w : World) (v : Value) (ao : Option Addr) (cap n : Nat) (xs ys : List ByteArray) (hu : TextSl w (.slice ao xs.length cap) xs) (hv : TextSl w v ys) (hn : n ≤ xs.length) (hny : n = ys.length) :
    Calls Tryd.prog 21 #[.slice ao n cap, v] w fun e w' => e = .returned (.bool (decide (xs.take n = ys))) ∧ ∃ q, w' = w.drewN q := by
  obtain ⟨ao1, cap1, he, hlx, hmx, hx⟩ := hu
  cases he
  obtain ⟨ao', cap', rfl, hly, hmy, hy⟩ := hv
  unfold maxLen at hmx hmy
  subst hny
  by_cases h0 : ys.length = 0
  · have hys : ys = [] := List.eq_nil_of_length_eq_zero h0
    subst hys
    refine (Tryd.slices_Equal_string_empty _ _ _ 0 _ w (by omega)).mono ?_
    rintro e w' ⟨rfl, rfl⟩
    exact ⟨by simp, 0, rfl⟩
  · obtain ⟨b, off, rfl, _, hcx⟩ := hx (by omega)
    obtain ⟨b', off', rfl, _, hcy⟩ := hy (by omega)
    refine (Tryd.slices_Equal_string b off ys.length cap b' off' ys.length cap' xs ys w hn (Nat.le_refl _) (by omega) (by omega) (fun j hj => ?_) (fun j hj => ?_)).mono ?_
    · rw [hcx j xs[j] (List.getElem?_eq_getElem hj), List.getD_eq_getElem?_getD, List.getElem?_eq_getElem hj]; rfl
    · rw [hcy j ys[j] (List.getElem?_eq_getElem hj), List.getD_eq_getElem?_getD, List.getElem?_eq_getElem hj]; rfl
    · rintro e w' ⟨rfl, hq⟩
      rw [List.take_of_length_le (Nat.le_refl ys.length)]
      exact ⟨rfl, hq⟩

/-- What lies below what. -/
def underB (a b : List UInt8) : Bool := match splitP a, splitP b with
  | some x, some y => decide (y.length < x.length) && decide (x.take y.length = y)
  | _, _ => false
end Go.Proofs.YtapmjchlkaicpaaDoor
