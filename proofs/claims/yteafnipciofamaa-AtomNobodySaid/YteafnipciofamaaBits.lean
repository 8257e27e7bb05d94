/- Numbers bit by bit, the highest first: no program. -/
import Derived.Test.YteafnipciofamaaLib
import Derived.Lib.BitFns
namespace Go.Tn.Bits

/-- A number of m bits, the first one the highest. -/
def num (f : Nat → Bool) : Nat → Nat
  | 0 => 0
  | m + 1 => num f m * 2 + (f m).toNat
/-- How many of the first m hold. -/
def cnt (f : Nat → Bool) : Nat → Nat
  | 0 => 0
  | m + 1 => cnt f m + (f m).toNat
/-- The first below m that holds, or m. -/
def fst (f : Nat → Bool) : Nat → Nat
  | 0 => 0
  | m + 1 => if fst f m < m then fst f m else if f m then m else m + 1

theorem num_congr {f g : Nat → Bool} : ∀ {m : Nat}, (∀ j, j < m → f j = g j) → num f m = num g m
  | 0, _ => rfl
  | m + 1, h => by simp only [num]; rw [num_congr (fun j hj => h j (by omega)), h m (by omega)]
theorem cnt_congr {f g : Nat → Bool} : ∀ {m : Nat}, (∀ j, j < m → f j = g j) → cnt f m = cnt g m
  | 0, _ => rfl
  | m + 1, h => by simp only [cnt]; rw [cnt_congr (fun j hj => h j (by omega)), h m (by omega)]
theorem toNat_le (b : Bool) : b.toNat ≤ 1 := by cases b <;> decide
theorem cnt_le (f : Nat → Bool) : ∀ m, cnt f m ≤ m
  | 0 => Nat.le_refl _
  | m + 1 => by have := cnt_le f m; have := toNat_le (f m); simp only [cnt]; omega
theorem cnt_add (f : Nat → Bool) (a : Nat) : ∀ b, cnt f (a + b) = cnt f a + cnt (fun j => f (a + j)) b
  | 0 => rfl
  | b + 1 => by
    show cnt f (a + b) + (f (a + b)).toNat = _
    rw [cnt_add f a b]; simp only [cnt]; omega
theorem num_lt (f : Nat → Bool) : ∀ m, num f m < 2 ^ m
  | 0 => by simp [num]
  | m + 1 => by have := num_lt f m; have := toNat_le (f m); simp only [num, Nat.pow_succ]; omega
theorem num_add (f : Nat → Bool) (a : Nat) : ∀ b, num f (a + b) = num f a * 2 ^ b + num (fun j => f (a + j)) b
  | 0 => by simp [num]
  | b + 1 => by
    show num f (a + b) * 2 + (f (a + b)).toNat = _
    rw [num_add f a b]
    simp only [num, Nat.pow_succ]
    rw [Nat.add_mul, Nat.mul_assoc]
    omega
theorem num_le_one (f : Nat → Bool) (h : ∀ j, f j = false) : ∀ m, num f m = 0
  | 0 => rfl
  | m + 1 => by simp [num, num_le_one f h m, h m]
theorem cnt_zero (f : Nat → Bool) (h : ∀ j, f j = false) : ∀ m, cnt f m = 0
  | 0 => rfl
  | m + 1 => by simp [cnt, cnt_zero f h m, h m]

theorem testBit_num (f : Nat → Bool) : ∀ (m j : Nat), (num f m).testBit j = (decide (j < m) && f (m - 1 - j))
  | 0, j => by simp [num]
  | m + 1, j => by
    have ht : (f m).toNat < 2 := by have := toNat_le (f m); omega
    cases j with
    | zero =>
      simp only [num, Nat.testBit_zero]
      have : (num f m * 2 + (f m).toNat) % 2 = (f m).toNat := by omega
      rw [this]
      cases h : f m <;> simp [h]
    | succ j =>
      simp only [num]
      rw [Nat.testBit_succ, show (num f m * 2 + (f m).toNat) / 2 = num f m by omega, testBit_num f m j]
      have e : m + 1 - 1 - (j + 1) = m - 1 - j := by omega
      rw [e]
      simp

def setB (f : Nat → Bool) (i : Nat) (b : Bool) : Nat → Bool := fun j => if j = i then b else f j
theorem setB_same (f : Nat → Bool) (i : Nat) (b : Bool) : setB f i b i = b := by simp [setB]
theorem setB_ne (f : Nat → Bool) {i j : Nat} (b : Bool) (h : j ≠ i) : setB f i b j = f j := by simp [setB, h]
theorem setB_self (f : Nat → Bool) (i : Nat) : setB f i (f i) = f := by funext j; unfold setB; split <;> simp_all
theorem cnt_set (f : Nat → Bool) {i : Nat} (b : Bool) : ∀ {m : Nat}, i < m → cnt (setB f i b) m + (f i).toNat = cnt f m + b.toNat
  | m + 1, h => by
    simp only [cnt]
    by_cases hi : i = m
    · subst hi
      rw [setB_same, cnt_congr (g := f) (fun j hj => setB_ne f b (by omega))]
      omega
    · have := cnt_set f b (show i < m by omega)
      rw [setB_ne f b (by omega)]
      omega
theorem cnt_set_out (f : Nat → Bool) {i : Nat} (b : Bool) {m : Nat} (h : m ≤ i) : cnt (setB f i b) m = cnt f m := cnt_congr fun j hj => setB_ne f b (by omega)

theorem num_or (f : Nat → Bool) {m i : Nat} (h : i < m) : num f m ||| 2 ^ (m - 1 - i) = num (setB f i true) m := by
  apply Nat.eq_of_testBit_eq
  intro j
  rw [Nat.testBit_or, testBit_num, testBit_num, Nat.testBit_two_pow]
  by_cases hj : j < m
  · by_cases he : m - 1 - i = j
    · have : m - 1 - j = i := by omega
      simp [hj, he, this, setB]
    · have : m - 1 - j ≠ i := by omega
      simp [hj, he, setB, this]
  · have : m - 1 - i ≠ j := by omega
    simp [hj, this]
theorem num_xor (f : Nat → Bool) {m i : Nat} (h : i < m) : num f m ^^^ 2 ^ (m - 1 - i) = num (setB f i (!f i)) m := by
  apply Nat.eq_of_testBit_eq
  intro j
  rw [Nat.testBit_xor, testBit_num, testBit_num, Nat.testBit_two_pow]
  by_cases hj : j < m
  · by_cases he : m - 1 - i = j
    · have : m - 1 - j = i := by omega
      simp [hj, he, this, setB]
    · have : m - 1 - j ≠ i := by omega
      simp [hj, he, setB, this]
  · have : m - 1 - i ≠ j := by omega
    simp [hj, this]
theorem num_and (f : Nat → Bool) {m i : Nat} (h : i < m) : num f m &&& 2 ^ (m - 1 - i) = if f i then 2 ^ (m - 1 - i) else 0 := by
  apply Nat.eq_of_testBit_eq
  intro j
  rw [Nat.testBit_and, testBit_num, Nat.testBit_two_pow]
  by_cases he : m - 1 - i = j
  · have h1 : m - 1 - j = i := by omega
    have h2 : j < m := by omega
    cases hf : f i <;> simp [h1, h2, he, hf, Nat.testBit_two_pow]
  · cases hf : f i <;> simp [he, hf, Nat.testBit_two_pow]
theorem num_not (f : Nat → Bool) : ∀ m, num (fun j => !f j) m + num f m + 1 = 2 ^ m
  | 0 => rfl
  | m + 1 => by
    have := num_not f m
    have h : (!f m).toNat + (f m).toNat = 1 := by cases f m <;> rfl
    simp only [num, Nat.pow_succ]; omega

theorem fst_le (f : Nat → Bool) : ∀ m, fst f m ≤ m
  | 0 => Nat.le_refl _
  | m + 1 => by have := fst_le f m; simp only [fst]; split <;> (try split) <;> omega
theorem fst_none {f : Nat → Bool} : ∀ {m j : Nat}, j < fst f m → f j = false
  | 0, j, h => by simp [fst] at h
  | m + 1, j, h => by
    simp only [fst] at h
    by_cases h1 : fst f m < m
    · rw [if_pos h1] at h; exact fst_none h
    · rw [if_neg h1] at h
      have hm : fst f m = m := by have := fst_le f m; omega
      by_cases h2 : f m
      · rw [if_pos h2] at h; exact fst_none (m := m) (by omega)
      · rw [if_neg h2] at h
        by_cases hj : j < m
        · exact fst_none (m := m) (by omega)
        · obtain rfl : j = m := by omega
          simpa using h2
theorem fst_some {f : Nat → Bool} : ∀ {m : Nat}, fst f m < m → f (fst f m) = true
  | m + 1, h => by
    simp only [fst] at h ⊢
    by_cases h1 : fst f m < m
    · simp only [if_pos h1]; exact fst_some h1
    · simp only [if_neg h1] at h ⊢
      by_cases h2 : f m
      · simp only [if_pos h2]; exact h2
      · rw [if_neg h2] at h; omega

theorem bitLenAux_num (f : Nat → Bool) : ∀ (m fu : Nat), m ≤ fu → Go.Lib.bitLenAux fu (num f m) = m - fst f m
  | 0, fu, _ => by cases fu <;> simp [Go.Lib.bitLenAux, num, fst]
  | m + 1, 0, h => by omega
  | m + 1, fu + 1, h => by
    have ih := bitLenAux_num f m fu (by omega)
    have hle := fst_le f m
    have ht := toNat_le (f m)
    have e : num f (m + 1) = num f m * 2 + (f m).toNat := rfl
    have e2 : num f (m + 1) / 2 = num f m := by omega
    have hg : fst f (m + 1) = if fst f m < m then fst f m else if f m then m else m + 1 := rfl
    show (if num f (m + 1) = 0 then 0 else 1 + Go.Lib.bitLenAux fu (num f (m + 1) / 2)) = _
    rw [e2, ih, hg]
    by_cases h1 : fst f m < m
    · have hne : num f m ≠ 0 := by
        intro h0
        have := testBit_num f m (m - 1 - fst f m)
        rw [h0, show m - 1 - (m - 1 - fst f m) = fst f m by omega, fst_some h1] at this
        have h2 : m - 1 - fst f m < m := by omega
        simp [h2] at this
      rw [if_neg (by omega), if_pos h1]
      omega
    · have hz : num f m = 0 := by
        have : num f m = num (fun _ => false) m := num_congr fun j hj => fst_none (m := m) (by omega)
        rw [this]; exact num_le_one _ (fun _ => rfl) m
      rw [if_neg h1]
      cases hf : f m
      · rw [if_pos (by rw [e, hz, hf]; rfl)]; simp
      · rw [if_neg (by rw [e, hz, hf]; decide)]; simp; omega
theorem bitLen_num (f : Nat → Bool) {m : Nat} (h : m ≤ 64) : Go.Lib.bitLen (num f m) = m - fst f m := bitLenAux_num f m 64 h

/-- Every number is some bits. -/
theorem num_of {x m : Nat} (h : x < 2 ^ m) : x = num (fun j => x.testBit (m - 1 - j)) m := by
  apply Nat.eq_of_testBit_eq
  intro j
  rw [testBit_num]
  by_cases hj : j < m
  · have : m - 1 - (m - 1 - j) = j := by omega
    simp [hj, this]
  · simp only [hj, decide_false, Bool.false_and]
    exact Nat.testBit_lt_two_pow (Nat.lt_of_lt_of_le h (Nat.pow_le_pow_right (by omega) (by omega)))
end Go.Tn.Bits
