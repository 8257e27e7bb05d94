/- Lists of texts in memory, and the library's walks over them. -/
import Derived.Test.YtapmjchlkaicpaaDoorWa
import Derived.Test.YtapmjchlkaicpaaDoorShelf
import Derived.Test.YtapmjchlkaicpaaDoorMaps
namespace Go.Proofs.YtapmjchlkaicpaaDoor
open Go.RowKit Go.Tn Go.Tn.Names

/-- A list of texts that can be read. -/
def TextSl (w : World) (v : Value) (xs : List ByteArray) : Prop :=
  ∃ ao cap, v = .slice ao xs.length cap ∧ xs.length ≤ cap ∧ cap ≤ maxLen ∧ (0 < xs.length → ∃ b off, ao = some ⟨b, off, none⟩ ∧ b < w.heap.size ∧ ∀ (i : Nat) (x : ByteArray), xs[i]? = some x → w.cell? ⟨b, off + i, none⟩ = some (.string x))
theorem TextSl.below {w w' : World} {v : Value} {xs : List ByteArray} (h : TextSl w v xs) (hb : Below w.heap.size w w') : TextSl w' v xs := by
  obtain ⟨ao, cap, rfl, h1, h2, h3⟩ := h
  refine ⟨ao, cap, rfl, h1, h2, fun h0 => ?_⟩
  obtain ⟨b, off, rfl, hlt, hc⟩ := h3 h0
  exact ⟨b, off, rfl, Nat.lt_of_lt_of_le hlt hb.size, fun i x hi => by rw [hb.cell (p := ⟨b, off + i, none⟩) hlt]; exact hc i x hi⟩
theorem TextSl.drewN {w : World} {v : Value} {xs : List ByteArray} (h : TextSl w v xs) (n : Nat) : TextSl (w.drewN n) v xs := h

abbrev texts (xs : List ByteArray) : List (List UInt8) := xs.map bs

theorem short_any (w : World) (s : ByteArray) (n : Nat) (hs : s.size ≤ maxLen) (hn : n ≤ 1000) : Calls Tryd.prog 6 #[.string s, .int .i64 n] w
    fun e w' => ∃ t, e = .returned (.string t) ∧ bs t = (bs s).take n ∧ t.size ≤ n ∧ w' = w := by
  unfold maxLen at hs
  by_cases h : n < s.size
  · have h' : (n : Int) < (s.size : Int) := by omega
    go_enter Tryd.func6, Tryd.ntmps6
    go_wp2
    go_ret
    refine ⟨_, rfl, ?_, ?_, rfl⟩
    · simp [bs]
    · simp; omega
  · have h' : (s.size : Int) ≤ (n : Int) := by omega
    go_enter Tryd.func6, Tryd.ntmps6
    go_wp2
    go_ret
    exact ⟨_, rfl, by rw [List.take_of_length_le (by rw [bs_len]; omega)], by omega, rfl⟩

theorem wrong_any (w : World) (s : ByteArray) : Calls Tryd.prog 19 #[.string s] w
    fun e w' => e = .returned (.bool (!isName (bs s))) ∧ Below w.heap.size w w' := by
  cases hn : isName (bs s) with
  | true =>
    have hc := fun w => check_any w s
    rw [errOf_yes hn] at hc
    go_enter Tryd.func19, Tryd.ntmps19
    go_wp2_with (go_at_call 9; refine (hc _).mono ?_; rintro e w2 ⟨rfl, hb⟩)
    go_ret
    exact ⟨rfl, hb⟩
  | false =>
    have hc := fun w => check_any w s
    rw [errOf_no hn] at hc
    go_enter Tryd.func19, Tryd.ntmps19
    go_wp2_with (go_at_call 9; refine (hc _).mono ?_; rintro e w2 ⟨rfl, hb⟩)
    go_ret
    exact ⟨rfl, hb⟩

/-- The first text that is no name. -/
def firstWrong (xs : List ByteArray) : Int := if (texts xs).all isName then -1 else 0
theorem eg_wrong : ∀ args w, (callFunc 19 args).run Tryd.prog w = .ok (.enter 19 args) w := enters_of Tryd.func19 (by kernel_rfl) rfl

theorem indexFunc_any (w : World) (v : Value) (xs : List ByteArray) (h : TextSl w v xs) : Calls Tryd.prog 24 #[v, .func (.func 19) #[] #[]] w
    fun e w' => (∃ i : Int, e = .returned (.int .i64 i) ∧ (0 ≤ i ↔ (texts xs).all isName = false)) ∧ Below w.heap.size w w' := by
  obtain ⟨ao, cap, rfl, hl, hm, hx⟩ := h
  have eg := eg_wrong
  unfold maxLen at hm
  go_enter Tryd.func24, Tryd.ntmps24
  go_wp2
  go_loopw [8] (fun c wr => ∃ k : Nat, k ≤ xs.length ∧ c = .int .i64 k ∧ (∀ j (h : j < xs.length), j < k → isName (bs xs[j]) = true) ∧ Below w.heap.size w wr) (fun c _ => xs.length - (intOf c).toNat)
  case atStart => exact ⟨0, Nat.zero_le _, rfl, fun j _ hj => absurd hj (Nat.not_lt_zero _), Below.refl _ _⟩
  case round =>
    obtain ⟨k, hk, rfl, hg, hb⟩ := hrel
    by_cases hlt : k < xs.length
    · have hlt' : (k : Int) < (xs.length : Int) := by omega
      obtain ⟨b, off, rfl, hbl, hc⟩ := hx (by omega)
      have hcell : wr.cell? ⟨b, off + k, none⟩ = some (.string xs[k]) := by
        rw [hb.cell (p := ⟨b, off + k, none⟩) hbl]
        exact hc k _ (List.getElem?_eq_getElem hlt)
      have hw : ∀ w, Calls Tryd.prog 19 (#[.string xs[k]] ++ #[]) w fun e w' => e = .returned (.bool (!isName (bs xs[k]))) ∧ Below w.heap.size w w' := fun w => wrong_any w xs[k]
      clear hc hx
      cases hn : isName (bs xs[k]) with
      | true =>
        rw [hn] at hw
        have HG := Lib.hid (show ∀ j (h : j < xs.length), j < k + 1 → isName (bs xs[j]) = true from fun j hj hj1 => by
          by_cases e : j = k
          · subst e; exact hn
          · exact hg j hj (by omega))
        clear hg hn
        generalize xs[k] = x at *
        go_wp2_with (go_at_fn 19; refine (hw _).mono ?_; rintro e w2 ⟨rfl, hb2⟩)
        go_roundw
        case rel => exact ⟨k + 1, by omega, by go_num, HG.out, hb.trans (hb2.mono hb.size)⟩
        case measure => simp [intOf]; omega
      | false =>
        rw [hn] at hw
        have HV := Lib.hid (show (texts xs).all isName = false by
          cases hc : (texts xs).all isName with
          | false => rfl
          | true =>
            have := List.all_eq_true.1 hc (bs xs[k]) (List.mem_map.2 ⟨xs[k], List.getElem_mem hlt, rfl⟩)
            rw [hn] at this; cases this)
        clear hg hn
        generalize xs[k] = x at *
        go_wp2_with (go_at_fn 19; refine (hw _).mono ?_; rintro e w2 ⟨rfl, hb2⟩)
        go_ret
        exact ⟨⟨k, rfl, by rw [HV.out]; simp⟩, hb.trans (hb2.mono hb.size)⟩
    · obtain rfl : k = xs.length := by omega
      have HV := Lib.hid (show (texts xs).all isName = true by
        rw [List.all_eq_true]
        intro x hxm
        obtain ⟨y, hy, rfl⟩ := List.mem_map.1 hxm
        obtain ⟨j, hj, rfl⟩ := List.mem_iff_getElem.1 hy
        exact hg j hj hj)
      clear hg
      go_wp2
      go_ret
      exact ⟨⟨-1, rfl, by rw [HV.out]; simp⟩, hb⟩

theorem containsFunc_any (w : World) (v : Value) (xs : List ByteArray) (h : TextSl w v xs) : Calls Tryd.prog 18 #[v, .func (.func 19) #[] #[]] w
    fun e w' => e = .returned (.bool (!(texts xs).all isName)) ∧ Below w.heap.size w w' := by
  cases hv : (texts xs).all isName with
  | true =>
    go_enter Tryd.func18, Tryd.ntmps18
    go_wp2_with fail
    refine (indexFunc_any w v xs h).mono ?_
    rintro e w2 ⟨⟨i, rfl, hi⟩, hb⟩
    have hi' : i < 0 := by
      by_cases h : i < 0
      · exact h
      · have := hi.1 (by omega); rw [hv] at this; cases this
    have t : decide (0 ≤ i) = false := by simp; omega
    clear hi
    go_wp2
    go_ret
    exact ⟨rfl, hb⟩
  | false =>
    go_enter Tryd.func18, Tryd.ntmps18
    go_wp2_with fail
    refine (indexFunc_any w v xs h).mono ?_
    rintro e w2 ⟨⟨i, rfl, hi⟩, hb⟩
    have hi' : 0 ≤ i := hi.2 hv
    clear hi
    go_wp2
    go_ret
    exact ⟨rfl, hb⟩
end Go.Proofs.YtapmjchlkaicpaaDoor
