/- Names: which bytes, the program's check; texts cut short. -/
import Derived.Test.YteafnipciofamaaRows
import Derived.Test.YteafnipciofamaaOrd
import Derived.Test.YteafnipciofamaaMaps
import Derived.Laws.RangeAny
import Derived.WalkKit
import Derived.BigQuiet
namespace Go.Tn.Names
open Go
def okByte (c : UInt8) : Bool := decide (32 < c.toNat) && decide (c.toNat < 127) && (c != 47)
/-- Whether a text is a name. -/
def isName (l : List UInt8) : Bool := l.all okByte && decide (0 < l.length) && decide (l.length < 17) && (l != [46]) && (l != [46, 46])
end Go.Tn.Names
namespace Go.Proofs.Yteafnipciofamaa
open Go.RowKit Go.Tn Go.Tn.Names

abbrev bs (s : ByteArray) : List UInt8 := s.data.toList
theorem bs_eq (s : ByteArray) : s.toList = bs s := ByteArray.toList_eq s
theorem bs_len (s : ByteArray) : (bs s).length = s.size := Array.length_toList
theorem bs_get (s : ByteArray) {k : Nat} (h : k < s.size) : (bs s)[k]? = some s[k] := by
  have := bs_len s
  rw [List.getElem?_eq_getElem (by omega)]
  rfl

/-- The first k bytes are good. -/
def goodTo (s : ByteArray) (k : Nat) : Prop := ∀ j (h : j < s.size), j < k → okByte s[j] = true
theorem all_good (s : ByteArray) (h : goodTo s s.size) : (bs s).all okByte = true := by
  rw [List.all_eq_true]
  intro x hx
  obtain ⟨j, hj, rfl⟩ := List.mem_iff_getElem.1 hx
  have hl := bs_len s
  exact h j (by omega) (by omega)
theorem all_bad (s : ByteArray) {k : Nat} (hk : k < s.size) (h : okByte s[k] = false) : (bs s).all okByte = false := by
  cases hc : (bs s).all okByte with
  | false => rfl
  | true =>
    have hl := bs_len s
    have := List.all_eq_true.1 hc s[k] (List.mem_iff_getElem.2 ⟨k, by omega, rfl⟩)
    rw [h] at this; cases this

theorem isName_of (s : ByteArray) (h : (bs s).all okByte = true) : isName (bs s) = (decide (0 < s.size) && decide (s.size < 17) && !(s.toList == [46]) && !(s.toList == [46, 46])) := by
  unfold isName
  rw [h, bs_len, bs_eq]
  simp [bne]

theorem odd_any (w : World) (c : Nat) : Calls Try.prog 24 #[.int .i32 c] w fun e w' => e = .returned (.bool (decide (c < 33) || decide (126 < c) || decide (c = 47))) ∧ w' = w := by
  by_cases h1 : c < 33
  · have h1' : (c : Int) < 33 := by omega
    go_enter Try.func24, Try.ntmps24
    go_wp2
    go_ret
    exact ⟨by simp [h1], rfl⟩
  · have h1' : (33 : Int) ≤ (c : Int) := by omega
    by_cases h2 : 126 < c
    · have h2' : (126 : Int) < (c : Int) := by omega
      go_enter Try.func24, Try.ntmps24
      go_wp2
      go_ret
      exact ⟨by simp [h2], rfl⟩
    · have h2' : (c : Int) ≤ 126 := by omega
      by_cases h3 : c = 47
      · subst h3
        go_enter Try.func24, Try.ntmps24
        go_wp2
        go_ret
        exact ⟨rfl, rfl⟩
      · have h3' : ((c : Int) == 47) = false := by simp; omega
        go_enter Try.func24, Try.ntmps24
        go_wp2
        go_ret
        exact ⟨by simp [h1, h2, h3] <;> omega, rfl⟩

/-! ### The program's own check -/
theorem decode_high (s : ByteArray) (i : Nat) (h : 128 ≤ (s.get! i).toNat) : 128 ≤ (Utf8.decode s i).1 := by
  unfold Utf8.decode
  simp only [Nat.add_zero]
  rw [if_neg (by omega)]
  split
  · split
    · assumption
    · decide
  · split
    · split
      · rename_i h1
        simp only [Bool.and_eq_true, decide_eq_true_eq] at h1
        have := h1.1
        simp only
        omega
      · decide
    · split
      · split
        · rename_i h1
          simp only [Bool.and_eq_true, decide_eq_true_eq] at h1
          have := h1.1
          simp only
          omega
        · decide
      · decide
/-- A rune of a text: its byte where that is ASCII, else a great one. -/
theorem decode_at (s : ByteArray) {k : Nat} (h : k < s.size) : (s[k].toNat < 128 ∧ Utf8.decode s k = (s[k].toNat, 1)) ∨ (128 ≤ s[k].toNat ∧ 128 ≤ (Utf8.decode s k).1) := by
  by_cases ha : s[k].toNat < 128
  · exact .inl ⟨ha, decode_ascii s k h ha⟩
  · refine .inr ⟨by omega, decode_high s k ?_⟩
    have e : s.get! k = s[k] := by
      simp [ByteArray.get!, getElem!_pos, h]
      rfl
    rw [e]
    omega

/-- What the program's own check says. -/
def errOf (l : List UInt8) : Int := if isName l then 0 else 9
theorem errOf_no {l : List UInt8} (h : isName l = false) : errOf l = 9 := by simp [errOf, h]
theorem errOf_yes {l : List UInt8} (h : isName l = true) : errOf l = 0 := by simp [errOf, h]

set_option maxRecDepth 20000 in
theorem check_any (w : World) (s : ByteArray) : Calls Try.prog 17 #[.string s] w
    fun e w' => e = .returned (.int .i64 (errOf (bs s))) ∧ Below w.heap.size w w' := by
  have hL := Lib.hid (bs_len s)
  by_cases h0 : 0 < s.size
  · have hemp : (s.toList == []) = false := by
      rw [bs_eq]
      cases hb : bs s with
      | nil => have := hL.out; rw [hb] at this; simp at this; omega
      | cons => rfl
    by_cases h17 : s.size < 17
    · have h17' : (s.size : Int) ≤ 16 := by omega
      cases e1 : (s.toList == [46])
      case' false => cases e2 : (s.toList == [46, 46])
      case false.false =>
        go_enter Try.func17, Try.ntmps17
        go_wp2
        go_loopw [4] (fun _ wr => ∃ pos : Nat, pos ≤ s.size ∧ goodTo s pos ∧ wr = w.iter s pos) (fun _ wr => s.size - wr.iterPos w.heap.size)
        case atStart => exact ⟨0, Nat.zero_le _, fun j _ hj => absurd hj (Nat.not_lt_zero _), rfl⟩
        case round =>
          obtain ⟨pos, hpos, hg, rfl⟩ := hrel
          have hip : (w.iter s pos).iterPos w.heap.size = pos := by simp [World.iterPos, World.iter_heap]
          by_cases hp : pos < s.size
          · have hnx := fun ty => run_next_any (P := Try.prog) w s pos ty hp
            have hd := decode_at s hp
            have hbelow : Below w.heap.size w (w.iter s (pos + (Utf8.decode s pos).2)) := (Below.refl _ w).alloc (Nat.le_refl _) _
            have hod := fun w => odd_any w (Utf8.decode s pos).1
            rcases hd with ⟨hlt, hd⟩ | ⟨hge, hd⟩
            · rw [hd] at hnx hod hbelow
              simp only at hnx hod hbelow
              cases hok : okByte s[pos] with
              | true =>
                have hv : (decide (s[pos].toNat < 33) || decide (126 < s[pos].toNat) || decide (s[pos].toNat = 47)) = false := by
                  simp only [okByte, Bool.and_eq_true, decide_eq_true_eq, bne_iff_ne, ne_eq] at hok
                  have h47 : s[pos].toNat ≠ 47 := fun e => hok.2 (UInt8.toNat_inj.1 e)
                  simp only [Bool.or_eq_false_iff, decide_eq_false_iff_not]
                  omega
                have hG := Lib.hid (show goodTo s (pos + 1) from fun j hj hj1 => by
                  by_cases e : j = pos
                  · subst e; exact hok
                  · exact hg j hj (by omega))
                simp only [hv] at hod
                clear hg hok hv hd
                generalize s[pos].toNat = c at *
                go_wp2_with (go_at_call 24; refine (hod _).mono ?_; rintro e w2 ⟨rfl, hw2⟩; obtain rfl := hw2.symm; clear hw2)
                go_roundw
                case rel => exact ⟨pos + 1, by omega, hG.out, rfl⟩
                case measure =>
                  have hip2 : (w.iter s (pos + 1)).iterPos w.heap.size = pos + 1 := by simp [World.iterPos, World.iter_heap]
                  rw [hip, hip2]
                  omega
              | false =>
                have hv : (decide (s[pos].toNat < 33) || decide (126 < s[pos].toNat) || decide (s[pos].toNat = 47)) = true := by
                  cases hc : (decide (s[pos].toNat < 33) || decide (126 < s[pos].toNat) || decide (s[pos].toNat = 47)) with
                  | true => rfl
                  | false =>
                    simp only [Bool.or_eq_false_iff, decide_eq_false_iff_not] at hc
                    have h47 : ¬ s[pos] = 47 := fun e => hc.2 (by rw [e]; rfl)
                    have : okByte s[pos] = true := by simp [okByte, h47]; omega
                    rw [hok] at this; cases this
                have hV := Lib.hid (errOf_no (l := bs s) (by simp [isName, all_bad s hp hok]))
                simp only [hv] at hod
                clear hg hok hv hd
                generalize s[pos].toNat = c at *
                go_wp2_with (go_at_call 24; refine (hod _).mono ?_; rintro e w2 ⟨rfl, hw2⟩; obtain rfl := hw2.symm; clear hw2)
                go_ret
                exact ⟨by rw [hV.out]; rfl, hbelow⟩
            · have hok : okByte s[pos] = false := by simp [okByte]; omega
              have hV := Lib.hid (errOf_no (l := bs s) (by simp [isName, all_bad s hp hok]))
              have hv : (decide ((Utf8.decode s pos).1 < 33) || decide (126 < (Utf8.decode s pos).1) || decide ((Utf8.decode s pos).1 = 47)) = true := by
                simp only [Bool.or_eq_true, decide_eq_true_eq]
                omega
              simp only [hv] at hod
              clear hg hok hv hd
              generalize (Utf8.decode s pos).1 = c at *
              generalize (Utf8.decode s pos).2 = c2 at *
              go_wp2_with (go_at_call 24; refine (hod _).mono ?_; rintro e w2 ⟨rfl, hw2⟩; obtain rfl := hw2.symm; clear hw2)
              go_ret
              exact ⟨by rw [hV.out]; rfl, hbelow⟩
          · obtain rfl : pos = s.size := by omega
            have hV := Lib.hid (errOf_yes (l := bs s) (by
              have hA := all_good s hg
              rw [isName_of s hA, e1, e2]
              simp [h0, h17]))
            have hnx := fun ty => run_next_end (P := Try.prog) w s s.size ty hp
            have hbelow : Below w.heap.size w (w.iter s s.size) := (Below.refl _ w).alloc (Nat.le_refl _) _
            clear hg
            go_wp2
            go_ret
            exact ⟨by rw [hV.out]; rfl, hbelow⟩
      all_goals
        have hV := Lib.hid (errOf_no (l := bs s) (by rw [bs_eq] at *; simp [isName, bne, *]))
        go_enter Try.func17, Try.ntmps17
        go_wp2
        go_ret
        exact ⟨by rw [hV.out]; rfl, Below.refl _ _⟩
    · have h17' : (16 : Int) < (s.size : Int) := by omega
      have hV := Lib.hid (errOf_no (l := bs s) (by simp [isName, hL.out, h17]))
      go_enter Try.func17, Try.ntmps17
      go_wp2
      go_ret
      exact ⟨by rw [hV.out]; rfl, Below.refl _ _⟩
  · have hemp : (s.toList == []) = true := by
      rw [bs_eq, show bs s = [] from List.eq_nil_of_length_eq_zero (by rw [hL.out]; omega)]
      rfl
    have hV := Lib.hid (errOf_no (l := bs s) (by simp [isName, hL.out, h0]))
    go_enter Try.func17, Try.ntmps17
    go_wp2
    go_ret
    exact ⟨by rw [hV.out]; rfl, Below.refl _ _⟩
theorem short_any (w : World) (s : ByteArray) (n : Nat) (hs : s.size ≤ maxLen) (hn : n ≤ 1000) : Calls Try.prog 12 #[.string s, .int .i64 n] w
    fun e w' => ∃ t, e = .returned (.string t) ∧ bs t = (bs s).take n ∧ t.size ≤ n ∧ w' = w := by
  unfold maxLen at hs
  by_cases h : n < s.size
  · have h' : (n : Int) < (s.size : Int) := by omega
    go_enter Try.func12, Try.ntmps12
    go_wp2
    go_ret
    refine ⟨_, rfl, ?_, ?_, rfl⟩
    · simp [bs]
    · simp; omega
  · have h' : (s.size : Int) ≤ (n : Int) := by omega
    go_enter Try.func12, Try.ntmps12
    go_wp2
    go_ret
    exact ⟨_, rfl, by rw [List.take_of_length_le (by rw [bs_len]; omega)], by omega, rfl⟩

end Go.Proofs.Yteafnipciofamaa
