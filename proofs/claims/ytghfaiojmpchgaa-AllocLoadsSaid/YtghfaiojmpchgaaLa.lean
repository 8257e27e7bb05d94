/- Load, by the program: the words that bytes make, and its walk. -/
import Derived.Test.YtghfaiojmpchgaaRc
import Derived.Test.YtghfaiojmpchgaaOrg
import Derived.Test.YtghfaiojmpchgaaArr
import Derived.Maps.RangeWalk
namespace Go.Proofs.Ytghfaiojmpchgaa
open Go.RowKit Go.Tn Go.Tn.Bits

/-- The 128 bytes of the homes T came in. -/
def BytesIn (w : World) (ao : Option Addr) (T : Nat → Bool) : Prop := ∃ b off, ao = some ⟨b, off, none⟩ ∧ b < w.heap.size ∧ ∀ i, i < 128 → w.cell? ⟨b, off + i, none⟩ = some (.int .u8 (by8 T i))

/-- Word k behind i bytes. -/
def pw (T : Nat → Bool) (i k : Nat) : Nat := num (fun j => T (64 * k + j)) (8 * min 8 (i - 8 * k))
theorem pw_lt (T : Nat → Bool) (i k : Nat) : pw T i k < 18446744073709551616 := by
  have := num_lt (fun j => T (64 * k + j)) (8 * min 8 (i - 8 * k))
  have h : 2 ^ (8 * min 8 (i - 8 * k)) ≤ 2 ^ 64 := Nat.pow_le_pow_right (by decide) (by omega)
  unfold pw
  omega
def partArr (n : Nat) (T : Nat → Bool) (i : Nat) : Array Value := (Value.int .i64 n :: (List.range 16).map fun k => Value.int .u64 (pw T i k)).toArray
theorem partArr_0 (n : Nat) (T : Nat → Bool) : partArr n T 0 = mapCells n (fun _ => false) := by
  refine congrArg (fun l => (Value.int .i64 n :: l).toArray) (List.map_congr_left fun k _ => ?_)
  have h1 : pw T 0 k = 0 := by simp [pw, num]
  have h2 : wd (fun _ => false) k = 0 := num_le_one _ (fun _ => rfl) 64
  rw [h1, h2]
theorem partArr_128 (n : Nat) (T : Nat → Bool) : partArr n T 128 = mapCells n T := by
  refine congrArg (fun l => (Value.int .i64 n :: l).toArray) (List.map_congr_left fun k hk => ?_)
  have hk' := List.mem_range.1 hk
  have h1 : pw T 128 k = wd T k := by
    unfold pw wd
    rw [show 8 * min 8 (128 - 8 * k) = 64 by omega]
  rw [h1]
theorem partArr_w (n : Nat) (T : Nat → Bool) (i : Nat) {k : Nat} (h : k < 16) : (partArr n T i)[1 + k]? = some (.int .u64 (pw T i k)) := by
  simp [partArr, Nat.add_comm 1 k, h]
theorem partArr_set (n : Nat) (T : Nat → Bool) (i : Nat) : (partArr n T i).setIfInBounds (1 + i / 8) (.int .u64 (pw T (i + 1) (i / 8))) = partArr n T (i + 1) := by
  apply Array.ext'
  apply List.ext_getElem?
  intro l
  simp only [partArr, Array.toList_setIfInBounds]
  rw [List.getElem?_set]
  cases l with
  | zero => simp
  | succ l =>
    by_cases hl : l < 16
    · by_cases hk : l = i / 8
      · subst hk; simp [Nat.add_comm 1, hl]
      · have h1 : 1 + i / 8 ≠ l + 1 := by omega
        have h2 : pw T (i + 1) l = pw T i l := by unfold pw; rw [show min 8 (i + 1 - 8 * l) = min 8 (i - 8 * l) by omega]
        simp [h1, hl, h2]
    · by_cases hk : l = i / 8
      · subst hk; simp [Nat.add_comm 1, hl]; omega
      · have h1 : 1 + i / 8 ≠ l + 1 := by omega
        simp [h1, hl]
theorem pw_next (T : Nat → Bool) (i : Nat) : pw T (i + 1) (i / 8) = pw T i (i / 8) * 256 + by8 T i ∧ pw T i (i / 8) * 256 < 18446744073709551616 := by
  unfold pw by8
  rw [show 8 * min 8 (i + 1 - 8 * (i / 8)) = 8 * (i % 8) + 8 by omega, show 8 * min 8 (i - 8 * (i / 8)) = 8 * (i % 8) by omega, num_add]
  have hlt := num_lt (fun j => T (64 * (i / 8) + j)) (8 * (i % 8))
  have hp : 2 ^ (8 * (i % 8)) ≤ 2 ^ 56 := Nat.pow_le_pow_right (by decide) (by omega)
  refine ⟨?_, by omega⟩
  congr 1
  refine num_congr fun j hj => ?_
  rw [show 64 * (i / 8) + (8 * (i % 8) + j) = 8 * i + j by omega]
theorem pw_or (T : Nat → Bool) (i : Nat) : (pw T i (i / 8) * 256 ||| by8 T i) = pw T (i + 1) (i / 8) := by
  rw [(pw_next T i).1]
  have h := Nat.shiftLeft_add_eq_or_of_lt (show by8 T i < 2 ^ 8 from by8_lt T i) (pw T i (i / 8))
  rw [Nat.shiftLeft_eq] at h
  exact h.symm

/-- The homes of T but those from n on, up to i. -/
def clr (T : Nat → Bool) (n i : Nat) : Nat → Bool := fun j => T j && !decide (n ≤ j ∧ j < i)
theorem clr_self (T : Nat → Bool) (n : Nat) : clr T n n = T := by
  funext j
  unfold clr
  have : ¬ (n ≤ j ∧ j < n) := by omega
  simp [this]
theorem clr_next (T : Nat → Bool) {n i : Nat} (h : n ≤ i) : clr T n (i + 1) = setB (clr T n i) i false := by
  funext j
  unfold clr setB
  by_cases hj : j = i
  · subst hj; simp [h]
  · have : (n ≤ j ∧ j < i + 1) ↔ (n ≤ j ∧ j < i) := by omega
    simp [hj, this]
theorem wd_clear (T : Nat → Bool) (i : Nat) : wd T (i / 64) &&& (2 ^ 64 - (2 ^ (63 - i % 64) + 1)) = wd (setB T i false) (i / 64) := by
  unfold wd
  rw [num_andNot _ (show i % 64 < 64 by omega)]
  refine num_congr fun j hj => ?_
  unfold setB
  have : (j = i % 64) ↔ (64 * (i / 64) + j = i) := by omega
  simp only [this]

theorem wordsArr_set (T : Nat → Bool) (i : Nat) : (wordsArr T).setIfInBounds (i / 64) (.int .u64 (wd (setB T i false) (i / 64))) = wordsArr (setB T i false) := by
  apply Array.ext'
  apply List.ext_getElem?
  intro l
  simp only [wordsArr, Array.toList_setIfInBounds]
  rw [List.getElem?_set]
  by_cases hl : l < 16
  · by_cases hk : l = i / 64
    · subst hk; simp [hl]
    · have h1 : i / 64 ≠ l := fun e => hk e.symm
      have h2 : wd (setB T i false) l = wd T l := wd_other T i _ hk
      simp [h1, hl, h2]
  · by_cases hk : l = i / 64
    · subst hk; simp [hl]
    · have h1 : i / 64 ≠ l := fun e => hk e.symm
      simp [h1, hl]
theorem wordsArr_nums (T : Nat → Bool) : wordsArr T = numsArr .u64 16 (fun k => (wd T k : Int)) := rfl
theorem wd_inj {T U : Nat → Bool} {k : Nat} (h : wd T k = wd U k) {j : Nat} (hj : j < 64) : T (64 * k + j) = U (64 * k + j) := by
  have h1 := testBit_num (fun j => T (64 * k + j)) 64 (63 - j)
  have h2 := testBit_num (fun j => U (64 * k + j)) 64 (63 - j)
  unfold wd at h
  rw [h] at h1
  rw [h1] at h2
  rw [show 64 - 1 - (63 - j) = j by omega] at h2
  have : 63 - j < 64 := by omega
  simpa [this] using h2
/-- Both are alike just if no home from n on is taken. -/
theorem words_all (T : Nat → Bool) (n : Nat) : ((List.range 16).all fun k => ((wd (clr T n 1024) k : Nat) : Int) == ((wd T k : Nat) : Int)) = true ↔ ∀ j, j < 1024 → n ≤ j → T j = false := by
  rw [List.all_eq_true]
  constructor
  · intro h j hj hn
    have := h (j / 64) (List.mem_range.2 (by omega))
    have h1 : wd (clr T n 1024) (j / 64) = wd T (j / 64) := Int.ofNat.inj (eq_of_beq this)
    have h2 := wd_inj h1 (show j % 64 < 64 by omega)
    rw [show 64 * (j / 64) + j % 64 = j by omega] at h2
    unfold clr at h2
    rw [← h2]
    simp [hn, hj]
  · intro h k hk
    have hk' := List.mem_range.1 hk
    have : wd (clr T n 1024) k = wd T k := num_congr fun j hj => by
      unfold clr
      by_cases h1 : n ≤ 64 * k + j
      · rw [h (64 * k + j) (by omega) h1]; rfl
      · simp [h1]
    simp [this]
end Go.Proofs.Ytghfaiojmpchgaa
