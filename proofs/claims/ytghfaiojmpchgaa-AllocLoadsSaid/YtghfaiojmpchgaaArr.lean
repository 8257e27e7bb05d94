/- Arrays of unsigned numbers: how two are compared. No program. -/
import Derived.Test.YtghfaiojmpchgaaOrd
import Derived.Laws.StructEq
import Derived.ChangeKeysEq
import Derived.Test.YtghfaiojmpchgaaPop
namespace Go.Tn
open Go.RowKit
variable {P : Program}

/-- An array of n numbers. -/
def numsArr (k : IntKind) (n : Nat) (f : Nat → Int) : Array Value := ((List.range n).map fun i => Value.int k (f i)).toArray
theorem numsArr_get (k : IntKind) {n : Nat} (f : Nat → Int) {i : Nat} (h : i < n) : (numsArr k n f)[i]? = some (.int k (f i)) := by simp [numsArr, h]
theorem numsArr_size (k : IntKind) (n : Nat) (f : Nat → Int) : (numsArr k n f).size = n := by simp [numsArr]

theorem run_equalIn_nums (w : World) (d : Nat) {t e : TypeId} {n : Nat} {k : IntKind} (ht : P.underlying t = some (.array n e)) (he : P.underlying e = some (.int k)) (hsz : ∀ w, (sizeOf e).run P w = .ok 1 w) (f g : Nat → Int) :
    (Op.equalIn (d + 2) t (.agg (numsArr k n f)) (.agg (numsArr k n g))).run P w = .ok ((List.range n).all fun i => f i == g i) w := by
  rw [List.range_eq_range', Op.equalIn]
  simp only [Sem.run_bind, run_underlying ht, Result.andThen_ok, hsz, Std.Legacy.Range.forIn_eq_forIn_range', Std.Legacy.Range.size, Nat.sub_zero, Nat.add_sub_cancel, Nat.div_one]
  have hl : ∀ i ∈ List.range' 0 n 1, i < n := fun i hi => by simpa using (List.mem_range'_1.1 hi).2
  generalize List.range' 0 n 1 = l at hl ⊢
  induction l with
  | nil => simp
  | cons i l ih =>
    have hi : i < n := hl i (by simp)
    have px : (part e (numsArr k n f) (i * 1)).run P w = .ok (.int k (f i)) w := by
      have := numsArr_get k f hi
      simp [part, isAgg, run_underlying he, this]
    have py : (part e (numsArr k n g) (i * 1)).run P w = .ok (.int k (g i)) w := by
      have := numsArr_get k g hi
      simp [part, isAgg, run_underlying he, this]
    have pe : (Op.equalIn (d + 1) e (.int k (f i)) (.int k (g i))).run P w = .ok (f i == g i) w := by
      rw [run_equalIn_int w d e k k _ _ he]
    simp only [List.forIn_cons, Sem.run_bind, px, py, pe, Result.andThen_ok, List.all_cons]
    cases hb : (f i == g i)
    · simp
    · simp only [Bool.not_true, Bool.false_eq_true, if_false, Sem.run_pure, Result.andThen_ok, Bool.true_and]
      exact ih fun j hj => hl j (by simp [hj])

theorem exec_neqA {ρ : Operand → Value} {dst : Option Tmp} {ty : TypeId} {pos : String} {after : Array Edge} {g : Option (Nat × Bool)} {t e yt : TypeId} {n : Nat} {k : IntKind} {f h : Nat → Int} {x y : Operand} (ht : P.underlying t = some (.array n e)) (he : P.underlying e = some (.int k)) (hsz : ∀ w, (sizeOf e).run P w = .ok 1 w) (hm : P.eqGuardType P.depth t = false) (hx : ρ x = .agg (numsArr k n f)) (hy : ρ y = .agg (numsArr k n h)) {q : Bool} (hq : ((List.range n).all fun i => f i == h i) = q) (w : World) :
    (execOp ρ ⟨dst, .binOp .neq t x y yt, ty, pos, after, g⟩).run P w = .ok (.value (.bool (!q))) w := by
  simp only [execOp, hx, hy, Sem.run_bind, run_eqGuard_agg w .neq t x y _ _ hm, Result.andThen_ok, run_neq_struct, run_equalIn_nums w 9998 ht he hsz f h, hq, Sem.run_pure]
end Go.Tn

namespace Go.Tn.Bits
open Go.RowKit
theorem bits_andNot (x y : Nat) (hx : x < 18446744073709551616) (hy : y < 18446744073709551616) : bits .andNot .u64 (x : Int) (y : Int) = ((x &&& (2 ^ 64 - (y + 1)) : Nat) : Int) := by
  have h : x &&& (2 ^ 64 - (y + 1)) < 18446744073709551616 := Nat.lt_of_le_of_lt Nat.and_le_left hx
  unfold Go.bits
  simp only [BitVec.ofInt_natCast]
  rw [BitVec.toNat_and, BitVec.toNat_not, BitVec.toNat_ofNat, BitVec.toNat_ofNat]
  rw [Nat.mod_eq_of_lt (show x < 2 ^ IntKind.u64.bits from hx), Nat.mod_eq_of_lt (show y < 2 ^ IntKind.u64.bits from hy)]
  have e : 2 ^ IntKind.u64.bits - 1 - y = 2 ^ 64 - (y + 1) := by
    show 18446744073709551616 - 1 - y = 18446744073709551616 - (y + 1)
    omega
  rw [e]
  exact wrap_u64 _ h
theorem num_andNot (f : Nat → Bool) {i : Nat} (h : i < 64) : num f 64 &&& (2 ^ 64 - (2 ^ (63 - i) + 1)) = num (setB f i false) 64 := by
  apply Nat.eq_of_testBit_eq
  intro j
  have hp : 2 ^ (63 - i) < 2 ^ 64 := Nat.pow_lt_pow_right (by decide) (by omega)
  rw [Nat.testBit_and, testBit_num, testBit_num, Nat.testBit_two_pow_sub_succ hp, Nat.testBit_two_pow]
  by_cases hj : j < 64
  · by_cases he : 63 - i = j
    · have : 64 - 1 - j = i := by omega
      simp [hj, he, this, setB]
    · have : 64 - 1 - j ≠ i := by omega
      simp [hj, he, setB, this]
  · simp [hj]
end Go.Tn.Bits
