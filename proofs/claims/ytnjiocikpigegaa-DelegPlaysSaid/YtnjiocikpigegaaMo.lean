/- Two bits a client: the plain law. No program. -/
import Derived.Test.YtnjiocikpigegaaPop
namespace Go.Tn.Mo
open Go.RowKit

/-- What client c has by modes m. -/
def mo (m c : Nat) : Nat := m / 4 ^ c % 4
/-- Modes in which client c has d. -/
def wi (m c d : Nat) : Nat := (m &&& (65535 - 3 * 4 ^ c)) ||| d * 4 ^ c
theorem lt8 {c : Nat} (h : c < 8) : c = 0 ∨ c = 1 ∨ c = 2 ∨ c = 3 ∨ c = 4 ∨ c = 5 ∨ c = 6 ∨ c = 7 := by omega
theorem mo_lt (m c : Nat) : mo m c < 4 := Nat.mod_lt _ (by decide)

theorem mo_bits (m c : Nat) : mo m c = (m.testBit (2 * c)).toNat + 2 * (m.testBit (2 * c + 1)).toNat := by
  have e4 : 4 ^ c = 2 ^ (2 * c) := by rw [Nat.pow_mul]
  have e1 : m / 2 ^ (2 * c + 1) = m / 4 ^ c / 2 := by rw [e4, Nat.pow_succ, ← Nat.div_div_eq_div_mul]
  unfold mo
  rw [Nat.testBit_eq_decide_div_mod_eq, Nat.testBit_eq_decide_div_mod_eq, e1, ← e4]
  generalize m / 4 ^ c = q
  have h1 : q % 2 = 0 ∨ q % 2 = 1 := by omega
  have h2 : q / 2 % 2 = 0 ∨ q / 2 % 2 = 1 := by omega
  rcases h1 with h1 | h1 <;> rcases h2 with h2 | h2 <;> simp [h1, h2] <;> omega

theorem wi_lt {m : Nat} (hm : m < 65536) {c : Nat} (hc : c < 8) {d : Nat} (hd : d < 3) : wi m c d < 65536 := by
  have h1 : m &&& (65535 - 3 * 4 ^ c) < 2 ^ 16 := Nat.lt_of_le_of_lt Nat.and_le_left hm
  have h2 : d * 4 ^ c < 2 ^ 16 := by
    rcases lt8 hc with rfl | rfl | rfl | rfl | rfl | rfl | rfl | rfl <;> omega
  exact Nat.or_lt_two_pow h1 h2

theorem mo_wi_bits : ∀ c, c < 8 → ∀ c', c' < 8 → ∀ d, d < 3 → ∀ x y : Bool, ((x && (65535 - 3 * 4 ^ c).testBit (2 * c')) || (d * 4 ^ c).testBit (2 * c')).toNat + 2 * ((y && (65535 - 3 * 4 ^ c).testBit (2 * c' + 1)) || (d * 4 ^ c).testBit (2 * c' + 1)).toNat = if c' = c then d else x.toNat + 2 * y.toNat := by decide +kernel
theorem mo_wi (m : Nat) {c c' : Nat} (hc : c < 8) (hc' : c' < 8) {d : Nat} (hd : d < 3) : mo (wi m c d) c' = if c' = c then d else mo m c' := by
  rw [mo_bits, mo_bits]
  unfold wi
  simp only [Nat.testBit_or, Nat.testBit_and]
  exact mo_wi_bits c hc c' hc' d hd _ _

theorem four_step (m : Nat) (hm : m < 65536) (h : ∀ c, c < 8 → m / 4 ^ c % 4 = 0) : ∀ c, c ≤ 8 → m = 4 ^ c * (m / 4 ^ c)
  | 0, _ => by simp
  | c + 1, hc => by
    have ih := four_step m hm h c (by omega)
    have h1 := h c (by omega)
    have e1 : m / 4 ^ (c + 1) = m / 4 ^ c / 4 := by rw [Nat.pow_succ, ← Nat.div_div_eq_div_mul]
    rw [e1, Nat.pow_succ, Nat.mul_assoc]
    generalize m / 4 ^ c = q at *
    have : q = 4 * (q / 4) := by omega
    rw [← this]
    exact ih
theorem mo_zero (m : Nat) (hm : m < 65536) : m = 0 ↔ ∀ c, c < 8 → mo m c = 0 := by
  refine ⟨fun h c _ => by subst h; simp [mo], fun h => ?_⟩
  have := four_step m hm h 8 (Nat.le_refl _)
  rw [Nat.div_eq_of_lt (show m < 4 ^ 8 from hm)] at this
  omega

theorem wrap_u16 (x : Nat) (h : x < 65536) : IntKind.u16.wrap (x : Int) = (x : Int) := by
  simp [IntKind.wrap, IntKind.bits, IntKind.signed]
  omega
theorem and16 (x y : Nat) (hx : x < 65536) (hy : y < 65536) : bits .and .u16 (x : Int) (y : Int) = ((x &&& y : Nat) : Int) := by
  have h : x &&& y < 65536 := Nat.lt_of_le_of_lt Nat.and_le_left hx
  unfold Go.bits
  simp only [BitVec.ofInt_natCast]
  rw [BitVec.toNat_and, BitVec.toNat_ofNat, BitVec.toNat_ofNat]
  rw [Nat.mod_eq_of_lt (show x < 2 ^ IntKind.u16.bits from hx), Nat.mod_eq_of_lt (show y < 2 ^ IntKind.u16.bits from hy)]
  exact wrap_u16 _ h
theorem or16 (x y : Nat) (hx : x < 65536) (hy : y < 65536) : bits .or .u16 (x : Int) (y : Int) = ((x ||| y : Nat) : Int) := by
  have h : x ||| y < 2 ^ 16 := Nat.or_lt_two_pow hx hy
  unfold Go.bits
  simp only [BitVec.ofInt_natCast]
  rw [BitVec.toNat_or, BitVec.toNat_ofNat, BitVec.toNat_ofNat]
  rw [Nat.mod_eq_of_lt (show x < 2 ^ IntKind.u16.bits from hx), Nat.mod_eq_of_lt (show y < 2 ^ IntKind.u16.bits from hy)]
  exact wrap_u16 _ h
theorem andNot16 (x y : Nat) (hx : x < 65536) (hy : y < 65536) : bits .andNot .u16 (x : Int) (y : Int) = ((x &&& (65535 - y) : Nat) : Int) := by
  have h : x &&& (65535 - y) < 65536 := Nat.lt_of_le_of_lt Nat.and_le_left hx
  unfold Go.bits
  simp only [BitVec.ofInt_natCast]
  rw [BitVec.toNat_and, BitVec.toNat_not, BitVec.toNat_ofNat, BitVec.toNat_ofNat]
  rw [Nat.mod_eq_of_lt (show x < 2 ^ IntKind.u16.bits from hx), Nat.mod_eq_of_lt (show y < 2 ^ IntKind.u16.bits from hy)]
  exact wrap_u16 _ h
theorem and3 (x : Nat) : x &&& 3 = x % 4 := by
  have := Nat.and_two_pow_sub_one_eq_mod x 2
  simpa using this
/-- What 'of' computes. -/
theorem of_eq {m x : Nat} (h : x ≤ m) (hm : m < 65536) : bits .and .u16 (x : Int) 3 = ((x % 4 : Nat) : Int) := by
  rw [show (3 : Int) = ((3 : Nat) : Int) from rfl, and16 _ _ (by omega) (by decide), and3]
theorem of_eq64 {m : Nat} (hm : m < 65536) (c : Nat) (x : Int) (hx : x = ((m / 4 ^ c : Nat) : Int)) : wrap64 (bits .and .u16 x 3) = ((mo m c : Nat) : Int) := by
  subst hx
  rw [of_eq (Nat.div_le_self _ _) hm]
  show wrap64 ((mo m c : Nat) : Int) = _
  have := mo_lt m c
  unfold wrap64
  omega
theorem with_eq {m p q : Nat} (hm : m < 65536) (hp : p < 65536) (hq : q < 65536) : bits .or .u16 (bits .andNot .u16 (m : Int) (p : Int)) (q : Int) = (((m &&& (65535 - p)) ||| q : Nat) : Int) := by
  rw [andNot16 _ _ hm hp, or16 _ _ (Nat.lt_of_le_of_lt Nat.and_le_left hm) hq]
end Go.Tn.Mo
