/- clear of a map, of the end of a slice; a struct stored into a slice's element. No program. -/
import Derived.Test.YtipbaajdnnddgaaGreatMgVlj1
import Derived.Laws.Entries
import Derived.Test.YtipbaajdnnddgaaGreatMgVlj4
import Derived.Laws.StructEq
import Derived.ChangeKeysEq
import Derived.Laws.IdiomCopy
import Derived.Lib.SliceRun
/- The ones of a number, as math/bits counts them: no program. -/
namespace Go.Tn.Bits

/-- A number of m bytes, the highest first. -/
def byt (c : Nat → Nat) : Nat → Nat
  | 0 => 0
  | m + 1 => byt c m * 256 + c m

theorem byt_num (f : Nat → Bool) : ∀ m, num f (8 * m) = byt (fun i => num (fun j => f (8 * i + j)) 8) m
  | 0 => rfl
  | m + 1 => by
    rw [show 8 * (m + 1) = 8 * m + 8 by omega, num_add, byt_num f m]
    rfl
theorem byt_lt {c : Nat → Nat} (h : ∀ i, c i < 256) : ∀ m, byt c m < 256 ^ m
  | 0 => by simp [byt]
  | m + 1 => by have := byt_lt h m; have := h m; simp only [byt, Nat.pow_succ]; omega

theorem and_split (A B : Nat) {a b : Nat} (ha : a < 256) (hb : b < 256) : (A * 256 + a) &&& (B * 256 + b) = (A &&& B) * 256 + (a &&& b) := by
  have hab : a &&& b < 256 := Nat.lt_of_le_of_lt Nat.and_le_left ha
  have e : ∀ (C : Nat) {c : Nat}, c < 256 → ∀ j, (C * 256 + c).testBit j = if j < 8 then c.testBit j else C.testBit (j - 8) := fun C c hc j => by
    have := Nat.testBit_two_pow_mul_add C (b := c) (i := 8) hc j
    rw [Nat.mul_comm] at this
    exact this
  apply Nat.eq_of_testBit_eq
  intro j
  rw [Nat.testBit_and, e A ha, e B hb, e _ hab]
  split <;> simp [Nat.testBit_and]

theorem fin1 : ∀ (r : Fin 2) (v : Fin 128), (r.val * 128 + v.val) &&& 85 = v.val &&& 85 := by decide +kernel
theorem fin2 : ∀ (r : Fin 4) (v : Fin 64), (r.val * 64 + v.val) &&& 51 = v.val &&& 51 := by decide +kernel
theorem fin3 : ∀ (r h l : Fin 5), (r.val * 16 + h.val + (h.val * 16 + l.val)) &&& 15 = h.val + l.val := by decide +kernel
theorem fin1' : ∀ (v : Fin 256), (v.val / 2 &&& 85) + (v.val &&& 85) < 256 := by decide +kernel
theorem fin2' : ∀ (v : Fin 256), (v.val / 4 &&& 51) + (v.val &&& 51) < 256 := by decide +kernel

theorem stage1 {c : Nat → Nat} (h : ∀ i, c i < 256) : ∀ m, (byt c m / 2 &&& byt (fun _ => 85) m) + (byt c m &&& byt (fun _ => 85) m) = byt (fun i => (c i / 2 &&& 85) + (c i &&& 85)) m
  | 0 => by simp [byt]
  | m + 1 => by
    have hm := h m
    simp only [byt]
    rw [← stage1 h m, and_split _ _ hm (by decide),
      show (byt c m * 256 + c m) / 2 = byt c m / 2 * 256 + (byt c m % 2 * 128 + c m / 2) by omega, and_split _ _ (by omega) (by decide)]
    have := fin1 ⟨byt c m % 2, by omega⟩ ⟨c m / 2, by omega⟩
    simp only at this
    rw [this]
    omega
theorem stage2 {c : Nat → Nat} (h : ∀ i, c i < 256) : ∀ m, (byt c m / 4 &&& byt (fun _ => 51) m) + (byt c m &&& byt (fun _ => 51) m) = byt (fun i => (c i / 4 &&& 51) + (c i &&& 51)) m
  | 0 => by simp [byt]
  | m + 1 => by
    have hm := h m
    simp only [byt]
    rw [← stage2 h m, and_split _ _ hm (by decide),
      show (byt c m * 256 + c m) / 4 = byt c m / 4 * 256 + (byt c m % 4 * 64 + c m / 4) by omega, and_split _ _ (by omega) (by decide)]
    have := fin2 ⟨byt c m % 4, by omega⟩ ⟨c m / 4, by omega⟩
    simp only at this
    rw [this]
    omega
theorem byt_mod {c : Nat → Nat} (h : ∀ i, c i / 16 ≤ 4 ∧ c i % 16 ≤ 4) : ∀ m, byt c m % 16 ≤ 4
  | 0 => by simp [byt]
  | m + 1 => by have := h m; simp only [byt]; omega
theorem stage3 {c : Nat → Nat} (h : ∀ i, c i / 16 ≤ 4 ∧ c i % 16 ≤ 4) : ∀ m, (byt c m / 16 + byt c m) &&& byt (fun _ => 15) m = byt (fun i => c i / 16 + c i % 16) m
  | 0 => by simp [byt]
  | m + 1 => by
    have hm := h m
    have hr := byt_mod h m
    simp only [byt]
    rw [← stage3 h m,
      show (byt c m * 256 + c m) / 16 + (byt c m * 256 + c m) = (byt c m / 16 + byt c m) * 256 + (byt c m % 16 * 16 + c m / 16 + (c m / 16 * 16 + c m % 16)) by omega, and_split _ _ (by omega) (by decide)]
    have := fin3 ⟨byt c m % 16, by omega⟩ ⟨c m / 16, by omega⟩ ⟨c m % 16, by omega⟩
    simp only at this
    rw [this]

def st1 (v : Nat) : Nat := (v / 2 &&& 85) + (v &&& 85)
def st2 (v : Nat) : Nat := (v / 4 &&& 51) + (v &&& 51)
def st3 (v : Nat) : Nat := v / 16 + v % 16
theorem st12 : ∀ v : Fin 256, st1 v.val < 256 ∧ st2 (st1 v.val) < 256 ∧ st2 (st1 v.val) / 16 ≤ 4 ∧ st2 (st1 v.val) % 16 ≤ 4 ∧ st3 (st2 (st1 v.val)) ≤ 8 := by decide +kernel
def ofB (b : Bool) (n : Nat) : Nat := n * 2 + b.toNat
theorem st_pop : ∀ b0 b1 b2 b3 b4 b5 b6 b7 : Bool, st3 (st2 (st1 (ofB b7 (ofB b6 (ofB b5 (ofB b4 (ofB b3 (ofB b2 (ofB b1 (ofB b0 0)))))))))) = 0 + b0.toNat + b1.toNat + b2.toNat + b3.toNat + b4.toNat + b5.toNat + b6.toNat + b7.toNat := by decide +kernel
theorem st_cnt (g : Nat → Bool) : st3 (st2 (st1 (num g 8))) = cnt g 8 := st_pop (g 0) (g 1) (g 2) (g 3) (g 4) (g 5) (g 6) (g 7)

/-- What OnesCount64 reckons, on numbers without a sign. -/
def ones (x : Nat) : Nat :=
  let a := (x / 2 &&& 6148914691236517205) + (x &&& 6148914691236517205)
  let b := (a / 4 &&& 3689348814741910323) + (a &&& 3689348814741910323)
  let c := (b / 16 + b) &&& 1085102592571150095
  let d := c + c / 256
  let e := d + d / 65536
  (e + e / 4294967296) % 128

theorem byt8 (c : Nat → Nat) : byt c 8 = ((((((((0 * 256 + c 0) * 256 + c 1) * 256 + c 2) * 256 + c 3) * 256 + c 4) * 256 + c 5) * 256 + c 6) * 256 + c 7) := rfl

theorem sum8_d (c0 c1 c2 c3 c4 c5 c6 c7 : Nat) (k0 : c0 ≤ 8) (k1 : c1 ≤ 8) (k2 : c2 ≤ 8) (k3 : c3 ≤ 8) (k4 : c4 ≤ 8) (k5 : c5 ≤ 8) (k6 : c6 ≤ 8) (k7 : c7 ≤ 8) (c d : Nat)
    (hc : c = ((((((((0 * 256 + c0) * 256 + c1) * 256 + c2) * 256 + c3) * 256 + c4) * 256 + c5) * 256 + c6) * 256 + c7)) (hd : d = c + c / 256) :
    d = ((((((((0 * 256 + c0) * 256 + (c0 + c1)) * 256 + (c1 + c2)) * 256 + (c2 + c3)) * 256 + (c3 + c4)) * 256 + (c4 + c5)) * 256 + (c5 + c6)) * 256 + (c6 + c7)) := by omega
theorem sum8_e (c0 c1 c2 c3 c4 c5 c6 c7 : Nat) (k0 : c0 ≤ 8) (k1 : c1 ≤ 8) (k2 : c2 ≤ 8) (k3 : c3 ≤ 8) (k4 : c4 ≤ 8) (k5 : c5 ≤ 8) (k6 : c6 ≤ 8) (k7 : c7 ≤ 8) (d e : Nat)
    (hd : d = ((((((((0 * 256 + c0) * 256 + (c0 + c1)) * 256 + (c1 + c2)) * 256 + (c2 + c3)) * 256 + (c3 + c4)) * 256 + (c4 + c5)) * 256 + (c5 + c6)) * 256 + (c6 + c7))) (he : e = d + d / 65536) :
    e = ((((((((0 * 256 + c0) * 256 + (c0 + c1)) * 256 + (c0 + c1 + c2)) * 256 + (c0 + c1 + c2 + c3)) * 256 + (c1 + c2 + c3 + c4)) * 256 + (c2 + c3 + c4 + c5)) * 256 + (c3 + c4 + c5 + c6)) * 256 + (c4 + c5 + c6 + c7)) := by omega
theorem sum8_q (c0 c1 c2 c3 c4 c5 c6 c7 : Nat) (k0 : c0 ≤ 8) (k1 : c1 ≤ 8) (k2 : c2 ≤ 8) (k3 : c3 ≤ 8) (k4 : c4 ≤ 8) (k5 : c5 ≤ 8) (k6 : c6 ≤ 8) (k7 : c7 ≤ 8) (e : Nat)
    (he : e = ((((((((0 * 256 + c0) * 256 + (c0 + c1)) * 256 + (c0 + c1 + c2)) * 256 + (c0 + c1 + c2 + c3)) * 256 + (c1 + c2 + c3 + c4)) * 256 + (c2 + c3 + c4 + c5)) * 256 + (c3 + c4 + c5 + c6)) * 256 + (c4 + c5 + c6 + c7))) :
    e / 4294967296 = ((((0 * 256 + c0) * 256 + (c0 + c1)) * 256 + (c0 + c1 + c2)) * 256 + (c0 + c1 + c2 + c3)) := by omega
theorem last8 (H G e q a b t : Nat) (he : e = H * 256 + a) (hq : q = G * 256 + b) (ht : a + b = t) (hl : t < 128) : (e + q) % 128 = t := by omega
theorem sum8 (c0 c1 c2 c3 c4 c5 c6 c7 : Nat) (k0 : c0 ≤ 8) (k1 : c1 ≤ 8) (k2 : c2 ≤ 8) (k3 : c3 ≤ 8) (k4 : c4 ≤ 8) (k5 : c5 ≤ 8) (k6 : c6 ≤ 8) (k7 : c7 ≤ 8) (c d e : Nat)
    (hc : c = ((((((((0 * 256 + c0) * 256 + c1) * 256 + c2) * 256 + c3) * 256 + c4) * 256 + c5) * 256 + c6) * 256 + c7)) (hd : d = c + c / 256) (he : e = d + d / 65536) :
    d < 18446744073709551616 ∧ e < 18446744073709551616 ∧ e + e / 4294967296 < 9223372036854775808 ∧ (e + e / 4294967296) % 128 = c0 + c1 + c2 + c3 + c4 + c5 + c6 + c7 := by
  have hd' := sum8_d c0 c1 c2 c3 c4 c5 c6 c7 k0 k1 k2 k3 k4 k5 k6 k7 c d hc hd
  have he' := sum8_e c0 c1 c2 c3 c4 c5 c6 c7 k0 k1 k2 k3 k4 k5 k6 k7 d e hd' he
  have hq := sum8_q c0 c1 c2 c3 c4 c5 c6 c7 k0 k1 k2 k3 k4 k5 k6 k7 e he'
  clear hc hd he
  exact ⟨by omega, by omega, by omega, last8 _ _ e (e / 4294967296) (c4 + c5 + c6 + c7) (c0 + c1 + c2 + c3) (c0 + c1 + c2 + c3 + c4 + c5 + c6 + c7) he' hq (by omega) (by omega)⟩

/-- All that is met on the way, and the end. -/
theorem ones_eq (f : Nat → Bool) : let x := num f 64
    let a := (x / 2 &&& 6148914691236517205) + (x &&& 6148914691236517205)
    let b := (a / 4 &&& 3689348814741910323) + (a &&& 3689348814741910323)
    let c := (b / 16 + b) &&& 1085102592571150095
    let d := c + c / 256
    let e := d + d / 65536
    a < 18446744073709551616 ∧ b < 18446744073709551616 ∧ b / 16 + b < 18446744073709551616 ∧ d < 18446744073709551616 ∧ e < 18446744073709551616 ∧ e + e / 4294967296 < 9223372036854775808 ∧ (e + e / 4294967296) % 128 = cnt f 64 := by
  intro x a b c d e
  have hlt : ∀ i, num (fun j => f (8 * i + j)) 8 < 256 := fun i => num_lt _ 8
  have s := fun i => st12 ⟨num (fun j => f (8 * i + j)) 8, hlt i⟩
  simp only at s
  have hx : x = byt (fun i => num (fun j => f (8 * i + j)) 8) 8 := byt_num f 8
  have ha : a = byt (fun i => st1 (num (fun j => f (8 * i + j)) 8)) 8 := by
    show (x / 2 &&& 6148914691236517205) + (x &&& 6148914691236517205) = _
    rw [hx]; exact stage1 hlt 8
  have hb : b = byt (fun i => st2 (st1 (num (fun j => f (8 * i + j)) 8))) 8 := by
    show (a / 4 &&& 3689348814741910323) + (a &&& 3689348814741910323) = _
    rw [ha]; exact stage2 (fun i => (s i).1) 8
  have hc : c = byt (fun i => st3 (st2 (st1 (num (fun j => f (8 * i + j)) 8)))) 8 := by
    show (b / 16 + b) &&& 1085102592571150095 = _
    rw [hb]; exact stage3 (fun i => ⟨(s i).2.2.1, (s i).2.2.2.1⟩) 8
  have hcnt : cnt f 64 = cnt (fun j => f (8 * 0 + j)) 8 + cnt (fun j => f (8 * 1 + j)) 8 + cnt (fun j => f (8 * 2 + j)) 8 + cnt (fun j => f (8 * 3 + j)) 8 + cnt (fun j => f (8 * 4 + j)) 8 + cnt (fun j => f (8 * 5 + j)) 8 + cnt (fun j => f (8 * 6 + j)) 8 + cnt (fun j => f (8 * 7 + j)) 8 := by
    rw [show (64 : Nat) = 8 * 7 + 8 from rfl, cnt_add, show 8 * 7 = 8 * 6 + 8 from rfl, cnt_add, show 8 * 6 = 8 * 5 + 8 from rfl, cnt_add, show 8 * 5 = 8 * 4 + 8 from rfl, cnt_add, show 8 * 4 = 8 * 3 + 8 from rfl, cnt_add, show 8 * 3 = 8 * 2 + 8 from rfl, cnt_add, show 8 * 2 = 8 * 1 + 8 from rfl, cnt_add]
    simp only [Nat.mul_zero, Nat.zero_add, Nat.mul_one]
  have hal := byt_lt (c := fun i => st1 (num (fun j => f (8 * i + j)) 8)) (fun i => (s i).1) 8
  have hbl := byt_lt (c := fun i => st2 (st1 (num (fun j => f (8 * i + j)) 8))) (fun i => (s i).2.1) 8
  rw [← ha] at hal
  rw [byt8] at hb hc
  have k := fun i => (s i).2.2.2.2
  have k0 := k 0; have k1 := k 1; have k2 := k 2; have k3 := k 3; have k4 := k 4; have k5 := k 5; have k6 := k 6; have k7 := k 7
  have l := fun i => (s i).2.2
  have l0 := l 0; have l1 := l 1; have l2 := l 2; have l3 := l 3; have l4 := l 4; have l5 := l 5; have l6 := l 6; have l7 := l 7
  rw [← st_cnt, ← st_cnt, ← st_cnt, ← st_cnt, ← st_cnt, ← st_cnt, ← st_cnt, ← st_cnt] at hcnt
  rw [hcnt]
  clear hcnt hx ha hlt s k l hbl
  have hd : d = c + c / 256 := rfl
  have he : e = d + d / 65536 := rfl
  clear_value a b c d e x
  generalize st3 (st2 (st1 (num (fun j => f (8 * 0 + j)) 8))) = c0 at *
  generalize st3 (st2 (st1 (num (fun j => f (8 * 1 + j)) 8))) = c1 at *
  generalize st3 (st2 (st1 (num (fun j => f (8 * 2 + j)) 8))) = c2 at *
  generalize st3 (st2 (st1 (num (fun j => f (8 * 3 + j)) 8))) = c3 at *
  generalize st3 (st2 (st1 (num (fun j => f (8 * 4 + j)) 8))) = c4 at *
  generalize st3 (st2 (st1 (num (fun j => f (8 * 5 + j)) 8))) = c5 at *
  generalize st3 (st2 (st1 (num (fun j => f (8 * 6 + j)) 8))) = c6 at *
  generalize st3 (st2 (st1 (num (fun j => f (8 * 7 + j)) 8))) = c7 at *
  generalize st2 (st1 (num (fun j => f (8 * 0 + j)) 8)) = b0 at *
  generalize st2 (st1 (num (fun j => f (8 * 1 + j)) 8)) = b1 at *
  generalize st2 (st1 (num (fun j => f (8 * 2 + j)) 8)) = b2 at *
  generalize st2 (st1 (num (fun j => f (8 * 3 + j)) 8)) = b3 at *
  generalize st2 (st1 (num (fun j => f (8 * 4 + j)) 8)) = b4 at *
  generalize st2 (st1 (num (fun j => f (8 * 5 + j)) 8)) = b5 at *
  generalize st2 (st1 (num (fun j => f (8 * 6 + j)) 8)) = b6 at *
  generalize st2 (st1 (num (fun j => f (8 * 7 + j)) 8)) = b7 at *
  have hb' : b ≤ 4919131752989213764 := by omega
  obtain ⟨s1, s2, s3, s4⟩ := sum8 c0 c1 c2 c3 c4 c5 c6 c7 k0 k1 k2 k3 k4 k5 k6 k7 c d e hc hd he
  exact ⟨hal, by omega, by omega, s1, s2, s3, s4⟩

/-! ### The model's words on them -/
theorem wrap_u64 (x : Nat) (h : x < 18446744073709551616) : IntKind.u64.wrap (x : Int) = (x : Int) := by
  simp [IntKind.wrap, IntKind.bits, IntKind.signed]
  omega
theorem bits_and (x y : Nat) (hx : x < 18446744073709551616) (hy : y < 18446744073709551616) : bits .and .u64 (x : Int) (y : Int) = ((x &&& y : Nat) : Int) := by
  have h : x &&& y < 18446744073709551616 := Nat.lt_of_le_of_lt Nat.and_le_left hx
  unfold Go.bits
  simp only [BitVec.ofInt_natCast]
  rw [BitVec.toNat_and, BitVec.toNat_ofNat, BitVec.toNat_ofNat]
  rw [Nat.mod_eq_of_lt (show x < 2 ^ IntKind.u64.bits from hx), Nat.mod_eq_of_lt (show y < 2 ^ IntKind.u64.bits from hy)]
  exact wrap_u64 _ h
theorem bits_or (x y : Nat) (hx : x < 18446744073709551616) (hy : y < 18446744073709551616) : bits .or .u64 (x : Int) (y : Int) = ((x ||| y : Nat) : Int) := by
  have h : x ||| y < 2 ^ 64 := Nat.or_lt_two_pow hx hy
  unfold Go.bits
  simp only [BitVec.ofInt_natCast]
  rw [BitVec.toNat_or, BitVec.toNat_ofNat, BitVec.toNat_ofNat]
  rw [Nat.mod_eq_of_lt (show x < 2 ^ IntKind.u64.bits from hx), Nat.mod_eq_of_lt (show y < 2 ^ IntKind.u64.bits from hy)]
  exact wrap_u64 _ h
theorem bits_xor (x y : Nat) (hx : x < 18446744073709551616) (hy : y < 18446744073709551616) : bits .xor .u64 (x : Int) (y : Int) = ((x ^^^ y : Nat) : Int) := by
  have h : x ^^^ y < 2 ^ 64 := Nat.xor_lt_two_pow hx hy
  unfold Go.bits
  simp only [BitVec.ofInt_natCast]
  rw [BitVec.toNat_xor, BitVec.toNat_ofNat, BitVec.toNat_ofNat]
  rw [Nat.mod_eq_of_lt (show x < 2 ^ IntKind.u64.bits from hx), Nat.mod_eq_of_lt (show y < 2 ^ IntKind.u64.bits from hy)]
  exact wrap_u64 _ h
end Go.Tn.Bits

/- Arrays of unsigned numbers: how two are compared. No program. -/
namespace Go.Tn
open Go.RowKit
variable {P : Program}

/-- An array of n numbers. -/
def numsArr (k : IntKind) (n : Nat) (f : Nat → Int) : Array Value := ((List.range n).map fun i => Value.int k (f i)).toArray
theorem numsArr_get (k : IntKind) {n : Nat} (f : Nat → Int) {i : Nat} (h : i < n) : (numsArr k n f)[i]? = some (.int k (f i)) := by simp [numsArr, h]
theorem numsArr_size (k : IntKind) (n : Nat) (f : Nat → Int) : (numsArr k n f).size = n := by simp [numsArr]

theorem run_equalIn_nums (w : World) (d : Nat) {t e : TypeId} {n : Nat} {k : IntKind} (ht : P.underlying t = some (.array n e)) (he : P.underlying e = some (.int k)) (hsz : ∀ w, (sizeOf e).run P w = .ok 1 w) (f g : Nat → Int) :
    (Op.equalIn (d + 2) t (.agg (numsArr k n f)) (.agg (numsArr k n g))).run P w = .ok ((List.range n).all fun i => f i == g i) w := by
  rw [List.range_eq_range', Op.equalIn]
  simp only [Sem.run_bind, run_underlying ht, Result.andThen_ok, hsz, Std.Legacy.Range.forIn_eq_forIn_range', Std.Legacy.Range.size, Nat.sub_zero, Nat.add_sub_cancel, Nat.div_one]
  have hl : ∀ i ∈ List.range' 0 n 1, i < n := fun i hi => by simpa using (List.mem_range'_1.1 hi).2
  generalize List.range' 0 n 1 = l at hl ⊢
  induction l with
  | nil => simp
  | cons i l ih =>
    have hi : i < n := hl i (by simp)
    have px : (part e (numsArr k n f) (i * 1)).run P w = .ok (.int k (f i)) w := by
      have := numsArr_get k f hi
      simp [part, isAgg, run_underlying he, this]
    have py : (part e (numsArr k n g) (i * 1)).run P w = .ok (.int k (g i)) w := by
      have := numsArr_get k g hi
      simp [part, isAgg, run_underlying he, this]
    have pe : (Op.equalIn (d + 1) e (.int k (f i)) (.int k (g i))).run P w = .ok (f i == g i) w := by
      rw [run_equalIn_int w d e k k _ _ he]
    simp only [List.forIn_cons, Sem.run_bind, px, py, pe, Result.andThen_ok, List.all_cons]
    cases hb : (f i == g i)
    · simp
    · simp only [Bool.not_true, Bool.false_eq_true, if_false, Sem.run_pure, Result.andThen_ok, Bool.true_and]
      exact ih fun j hj => hl j (by simp [hj])

theorem exec_neqA {ρ : Operand → Value} {dst : Option Tmp} {ty : TypeId} {pos : String} {after : Array Edge} {g : Option (Nat × Bool)} {t e yt : TypeId} {n : Nat} {k : IntKind} {f h : Nat → Int} {x y : Operand} (ht : P.underlying t = some (.array n e)) (he : P.underlying e = some (.int k)) (hsz : ∀ w, (sizeOf e).run P w = .ok 1 w) (hm : P.eqGuardType P.depth t = false) (hx : ρ x = .agg (numsArr k n f)) (hy : ρ y = .agg (numsArr k n h)) {q : Bool} (hq : ((List.range n).all fun i => f i == h i) = q) (w : World) :
    (execOp ρ ⟨dst, .binOp .neq t x y yt, ty, pos, after, g⟩).run P w = .ok (.value (.bool (!q))) w := by
  simp only [execOp, hx, hy, Sem.run_bind, run_eqGuard_agg w .neq t x y _ _ hm, Result.andThen_ok, run_neq_struct, run_equalIn_nums w 9998 ht he hsz f h, hq, Sem.run_pure]
end Go.Tn

namespace Go.Tn.Bits
open Go.RowKit
theorem bits_andNot (x y : Nat) (hx : x < 18446744073709551616) (hy : y < 18446744073709551616) : bits .andNot .u64 (x : Int) (y : Int) = ((x &&& (2 ^ 64 - (y + 1)) : Nat) : Int) := by
  have h : x &&& (2 ^ 64 - (y + 1)) < 18446744073709551616 := Nat.lt_of_le_of_lt Nat.and_le_left hx
  unfold Go.bits
  simp only [BitVec.ofInt_natCast]
  rw [BitVec.toNat_and, BitVec.toNat_not, BitVec.toNat_ofNat, BitVec.toNat_ofNat]
  rw [Nat.mod_eq_of_lt (show x < 2 ^ IntKind.u64.bits from hx), Nat.mod_eq_of_lt (show y < 2 ^ IntKind.u64.bits from hy)]
  have e : 2 ^ IntKind.u64.bits - 1 - y = 2 ^ 64 - (y + 1) := by
    show 18446744073709551616 - 1 - y = 18446744073709551616 - (y + 1)
    omega
  rw [e]
  exact wrap_u64 _ h
theorem num_andNot (f : Nat → Bool) {i : Nat} (h : i < 64) : num f 64 &&& (2 ^ 64 - (2 ^ (63 - i) + 1)) = num (setB f i false) 64 := by
  apply Nat.eq_of_testBit_eq
  intro j
  have hp : 2 ^ (63 - i) < 2 ^ 64 := Nat.pow_lt_pow_right (by decide) (by omega)
  rw [Nat.testBit_and, testBit_num, testBit_num, Nat.testBit_two_pow_sub_succ hp, Nat.testBit_two_pow]
  by_cases hj : j < 64
  · by_cases he : 63 - i = j
    · have : 64 - 1 - j = i := by omega
      simp [hj, he, this, setB]
    · have : 64 - 1 - j ≠ i := by omega
      simp [hj, he, setB, this]
  · simp [hj]
end Go.Tn.Bits

/- A part of a list in a slice: s[:i], s[i:]. No program. -/
namespace Go.Tn
open Go.RowKit
variable {P : Program} {α : Type} {en : α → List Value} {k : Nat} {e t : TypeId}

theorem add_zero (a : Addr) : a.add 0 = a := by
  cases a with
  | mk b o s => cases s <;> simp [Addr.add]
theorem sizeOf_of (hs : (P.info? e).map (·.size) = some k) (w : World) : (sizeOf e).run P w = .ok k w := by
  cases hq : P.info? e with
  | none => simp [hq] at hs
  | some i =>
    have : i.size = k := by simpa [hq] using hs
    simp [sizeOf, typeInfo, hq, this]
theorem exec_sliceHi {ρ : Operand → Value} {dst : Option Tmp} {ty : TypeId} {pos : String} {after : Array Edge} {g : Option (Nat × Bool)} {x y : Operand} {w : World} {ao : Option Addr} {len cap i : Nat} (hu : P.underlying t = some (.slice e)) (hs : (P.info? e).map (·.size) = some k) (hi : i ≤ cap) (hx : ρ x = .slice ao len cap) (hy : ρ y = .int .i64 i) :
    (execOp ρ ⟨dst, .slice t x none (some y) none, ty, pos, after, g⟩).run P w = .ok (.value (.slice ao i cap)) w := by
  have h0 : (0 : Int) ≤ (i : Int) ∧ (i : Int) ≤ (cap : Int) := by omega
  have ha : (if cap = 0 then ao else ao.map (·.add 0)) = ao := by
    split
    · rfl
    · cases ao with
      | none => rfl
      | some a => simp [add_zero]
  simp only [execOp, hx, hy, Option.map_some, Option.map_none, Instr.sliceAt, Instr.slice, Instr.sliceBounds, Instr.sliceBound, asIntOf, run_underlying hu, Sem.run_bind, Sem.run_pure, Result.andThen_ok, h0, and_self, if_true, sizeOf_of hs, Int.toNat_natCast, Nat.zero_mul, Nat.sub_zero, ha]
theorem exec_sliceLo {ρ : Operand → Value} {dst : Option Tmp} {ty : TypeId} {pos : String} {after : Array Edge} {g : Option (Nat × Bool)} {x y : Operand} {w : World} {ao : Option Addr} {len cap i : Nat} (hu : P.underlying t = some (.slice e)) (hs : (P.info? e).map (·.size) = some k) (hi : i ≤ len) (hx : ρ x = .slice ao len cap) (hy : ρ y = .int .i64 i) :
    (execOp ρ ⟨dst, .slice t x (some y) none none, ty, pos, after, g⟩).run P w = .ok (.value (.slice (if cap = i then ao else ao.map (·.add (i * k))) (len - i) (cap - i))) w := by
  have h0 : (0 : Int) ≤ (i : Int) ∧ (i : Int) ≤ (len : Int) := by omega
  simp [execOp, hx, hy, Instr.sliceAt, Instr.slice, Instr.sliceBounds, Instr.sliceBound, asIntOf, run_underlying hu, h0, sizeOf_of hs]
  intro hlt
  omega
theorem LSl.take {w : World} {ao : Option Addr} {n cap : Nat} {xs : List α} (h : LSl en k w (.slice ao n cap) xs) {i : Nat} (hi : i ≤ xs.length) : LSl en k w (.slice ao i cap) (xs.take i) := by
  obtain ⟨ao', cap', hv, h1, h2, h3⟩ := h
  cases hv
  have hl : (xs.take i).length = i := by rw [List.length_take]; omega
  refine ⟨ao, cap, by rw [hl], by rw [hl]; omega, h2, fun h0 => ?_⟩
  obtain ⟨b, off, rfl, hlt, hc⟩ := h3 (by omega)
  refine ⟨b, off, rfl, hlt, fun j x hj => hc j x ?_⟩
  rw [List.getElem?_take] at hj
  split at hj
  · exact hj
  · cases hj
theorem LSl.drop {w : World} {ao : Option Addr} {n cap : Nat} {xs : List α} (h : LSl en k w (.slice ao n cap) xs) {i : Nat} (hi : i ≤ xs.length) : LSl en k w (.slice (if cap = i then ao else ao.map (·.add (i * k))) (n - i) (cap - i)) (xs.drop i) := by
  obtain ⟨ao', cap', hv, h1, h2, h3⟩ := h
  cases hv
  have hl : (xs.drop i).length = xs.length - i := List.length_drop
  refine ⟨_, cap - i, by rw [hl], by rw [hl]; omega, by omega, fun h0 => ?_⟩
  rw [hl] at h0
  obtain ⟨b, off, rfl, hlt, hc⟩ := h3 (by omega)
  refine ⟨b, off + i * k, ?_, hlt, fun j x hj q hq => ?_⟩
  · rw [if_neg (by omega)]
    simp [addr_add]
  · rw [List.getElem?_drop] at hj
    have := hc (i + j) x hj q hq
    rw [Nat.add_mul] at this
    rw [show off + i * k + j * k + q = off + (i * k + j * k) + q by omega]
    exact this
theorem exec_sliceLo2 {ρ : Operand → Value} {dst : Option Tmp} {ty : TypeId} {pos : String} {after : Array Edge} {g : Option (Nat × Bool)} {x y : Operand} {w : World} {ao ad : Option Addr} {len cap i ln cn : Nat} (hu : P.underlying t = some (.slice e)) (hs : (P.info? e).map (·.size) = some k) (hi : i ≤ len) (had : (if cap = i then ao else ao.map (·.add (i * k))) = ad) (hln : len - i = ln) (hcn : cap - i = cn) (hx : ρ x = .slice ao len cap) (hy : ρ y = .int .i64 i) :
    (execOp ρ ⟨dst, .slice t x (some y) none none, ty, pos, after, g⟩).run P w = .ok (.value (.slice ad ln cn)) w := by
  subst had hln hcn
  exact exec_sliceLo hu hs hi hx hy
theorem LSl.drop2 {w : World} {ao ad : Option Addr} {n cap ln cn : Nat} {xs : List α} (h : LSl en k w (.slice ao n cap) xs) {i : Nat} (hi : i ≤ xs.length) (had : (if cap = i then ao else ao.map (·.add (i * k))) = ad) (hln : n - i = ln) (hcn : cap - i = cn) : LSl en k w (.slice ad ln cn) (xs.drop i) := by
  subst had hln hcn
  exact h.drop hi
theorem wpList_appendN {ops : Array Oper} {rest : List Oper} {a : Act} {Q : Exit → Act → World → Prop} (E : ElT P t e k en) {B : Nat} {w : World} {v u : Value} {xs ys : List α} (h : LOut en k e B w v xs) (hu : LSl en k w u ys) (hsz : xs.length + ys.length ≤ 100000) {dst : Option Tmp} {ty : TypeId} {pos : String} {after : Array Edge} {s y : Operand}
    (hs : a.eval s = v) (hy : a.eval y = u)
    (hk : ∀ v' w', LOut en k e B w' v' (xs ++ ys) → w.grownBy w' v.ownBlock → (v'.ownBlock = v.ownBlock ∨ v'.ownBlock = some w.heap.size) → wpList P ops Q rest (a.put dst v') w') :
    wpList P ops Q ({ dst := dst, op := .call { callee := .builtin .append, args := #[s, y], argTypes := #[t, t] }, type := ty, pos := pos, after := after, guard := none } :: rest) a w := by
  obtain ⟨v', w', hr, ho, hg, hl⟩ := run_appendM E (ty := ty) h hu hsz
  refine wpList_exec rfl (v := v') (w' := w') ?_ (hk v' w' ho hg hl)
  simp only [execOp, resolve, invoke, builtin, Sem.run_bind, Sem.run_pure, Result.andThen_ok, List.map_toArray, List.map_cons, List.map_nil, hs, hy, hr]

theorem flatMap_set (hen : ∀ x, (en x).length = k) : ∀ (xs : List α) (i j : Nat) (x y : α) (u : Value), xs[i]? = some x → j < k → en y = (en x).set j u → (xs.set i y).flatMap en = (xs.flatMap en).set (i * k + j) u
  | [], i, j, x, y, u, h, _, _ => by simp at h
  | z :: zs, 0, j, x, y, u, h, hj, hy => by
    have : z = x := by simpa using h
    subst this
    rw [List.set_cons_zero, List.flatMap_cons, List.flatMap_cons, hy, Nat.zero_mul, Nat.zero_add, List.set_append_left _ _ (by rw [hen]; exact hj)]
  | z :: zs, i + 1, j, x, y, u, h, hj, hy => by
    have hx : zs[i]? = some x := by simpa using h
    have e1 : (i + 1) * k + j = (en z).length + (i * k + j) := by rw [hen, Nat.add_mul]; omega
    rw [List.set_cons_succ, List.flatMap_cons, List.flatMap_cons, flatMap_set hen zs i j x y u hx hj hy, e1, List.set_append_right _ _ (Nat.le_add_right _ _), Nat.add_sub_cancel_left]
/-- A store into an element's cell. -/
theorem LOut.set (hen : ∀ x, (en x).length = k) {B : Nat} {w : World} {b off n cap : Nat} {xs : List α} (h : LOut en k e B w (.slice (some ⟨b, off, none⟩) n cap) xs) {i j : Nat} {x y : α} {u : Value} (hi : xs[i]? = some x) (hj : j < k) (hy : en y = (en x).set j u) :
    LOut en k e B (w.setCell ⟨b, off + i * k + j, none⟩ u) (.slice (some ⟨b, off, none⟩) n cap) (xs.set i y) := by
  rcases h.own.2 with ⟨hv, _⟩ | ⟨g, cap', cur, hv, h0, hg, hn, hm, hs, ht⟩
  · cases hv
  · cases hv
    refine ⟨⟨by rw [len_flatMap hen], .inr ⟨b, cap, cur.setIfInBounds (0 + i * k + j) u, by rw [List.length_set], h0, heap_setCell_at hg, by rw [List.length_set]; exact hn, hm, by simpa using hs, ?_⟩⟩, h.lo, by simpa [World.setCell] using h.le⟩
    rw [flatMap_set hen xs i j x y u hi hj hy, ← ht, List.length_set, Nat.zero_add]
    simp [List.take_set]
theorem LOut.frozen {B : Nat} {w : World} {b off n cap : Nat} {xs : List α} (h : LOut en k e B w (.slice (some ⟨b, off, none⟩) n cap) xs) (o : Nat) : w.frozen? ⟨b, o, none⟩ = false := by
  rcases h.own.2 with ⟨hv, _⟩ | ⟨g, cap', cur, hv, h0, hg, _⟩
  · cases hv
  · cases hv
    exact free_of hg
end Go.Tn

/- clear of a map, of the end of a slice; a struct stored into a slice's element. No program. -/
namespace Go.Tn
open Go.RowKit

section
variable {κ : Type} {P : Program} {K T E m clk : Nat} {enc : κ → Value} {L : Ents κ} {w : World}
theorem run_clearMap {ty : TypeId} (hT : P.underlying T = some (.map K E)) (hb : w.heap[m]? = some (.map (ents enc L) clk)) :
    (Builtin.clear_ #[T] ty #[.map (some m)]).run P w = .ok (.tuple #[]) (setObjW w m (.map (ents enc ([] : Ents κ)) clk)) := by
  have hund : (underlying T).run P w = .ok (.map K E) w := by simp [underlying, hT]
  have e1 : ∀ (x : TypeId), (#[x] : Array TypeId)[0]? = some x := fun _ => rfl
  have e2 : ∀ (x : Value), (#[x] : Array Value)[0]? = some x := fun _ => rfl
  simp only [Builtin.clear_, e1, e2, Sem.run_bind, hund, Result.andThen_ok, run_getObj hb, run_setObj hb, Sem.run_pure]
  rfl
theorem exec_clearMap {ρ : Operand → Value} {dst : Option Tmp} {ty : TypeId} {pos : String} {after : Array Edge} {g : Option (Nat × Bool)} (hT : P.underlying T = some (.map K E)) (hb : w.heap[m]? = some (.map (ents enc L) clk)) {x : Operand} (hx : ρ x = .map (some m)) :
    (execOp ρ ⟨dst, .call { callee := .builtin .clear, args := #[x], argTypes := #[T] }, ty, pos, after, g⟩).run P w = .ok (.value (.tuple #[])) (setObjW w m (.map (ents enc ([] : Ents κ)) clk)) := by
  simp only [execOp, resolve, invoke, builtin, Sem.run_bind, Sem.run_pure, Result.andThen_ok, List.map_toArray, List.map_cons, List.map_nil, hx, run_clearMap hT hb]
end

/-! ### Many cells of a block -/
def setMany (cur : Array Value) : Nat → List Value → Array Value
  | _, [] => cur
  | o, v :: r => setMany (cur.setIfInBounds o v) (o + 1) r
theorem setMany_size : ∀ (vs : List Value) (o : Nat) (cur : Array Value), (setMany cur o vs).size = cur.size
  | [], _, _ => rfl
  | v :: r, o, cur => by rw [setMany, setMany_size r]; simp
theorem setMany_get : ∀ (vs : List Value) (o : Nat) (cur : Array Value) (i : Nat), i < cur.size → (setMany cur o vs)[i]? = if o ≤ i ∧ i < o + vs.length then vs[i - o]? else cur[i]?
  | [], o, cur, i, _ => by rw [setMany, List.length_nil, if_neg (by omega)]
  | v :: r, o, cur, i, hi => by
    rw [setMany, setMany_get r (o + 1) _ i (by simpa using hi)]
    by_cases h1 : i = o
    · subst h1
      rw [if_neg (by omega), if_pos (by simp)]
      simp [hi]
    · by_cases h2 : o + 1 ≤ i ∧ i < o + 1 + r.length
      · rw [if_pos h2, if_pos (by rw [List.length_cons]; omega), show i - o = (i - (o + 1)) + 1 by omega]
        simp
      · rw [if_neg h2, if_neg (by rw [List.length_cons]; omega)]
        rw [Array.getElem?_setIfInBounds_ne (by omega)]
theorem heap_setCells_at {b : Nat} {T : TypeId} {fr : Nat × Nat} : ∀ (vs : List Value) (o : Nat) (w : World) (cur : Array Value), w.heap[b]? = some (.cells cur T fr) → (w.setCells b o vs).heap[b]? = some (.cells (setMany cur o vs) T fr)
  | [], _, _, _, h => h
  | v :: r, o, w, cur, h => by
    rw [World.setCells, setMany]
    exact heap_setCells_at r (o + 1) _ _ (heap_setCell_at h)
theorem heap_setCells_ne {b c : Nat} (hc : c ≠ b) : ∀ (vs : List Value) (o : Nat) (w : World), (w.setCells b o vs).heap[c]? = w.heap[c]?
  | [], _, _ => rfl
  | v :: r, o, w => by
    rw [World.setCells, heap_setCells_ne hc r]
    exact heap_setCell_ne hc
theorem size_setCells (b : Nat) : ∀ (vs : List Value) (o : Nat) (w : World), (w.setCells b o vs).heap.size = w.heap.size
  | [], _, _ => rfl
  | v :: r, o, w => by rw [World.setCells, size_setCells b r]; simp [World.setCell]
theorem Mod.setCells {S : Nat → Prop} {b : Nat} {a : World} (hS : b < a.heap.size → S b) : ∀ (vs : List Value) (o : Nat) (w : World), Mod S a w → Mod S a (w.setCells b o vs)
  | [], _, _, h => h
  | v :: r, o, w, h => by
    rw [World.setCells]
    exact Mod.setCells hS r (o + 1) _ (h.setCell ⟨b, o, none⟩ v hS)

section
variable {P : Program} {α : Type} {en : α → List Value} {k B : Nat} {e : TypeId} {w : World}

theorem run_storeA {t : TypeId} {b o : Nat} {cs cur : Array Value} {T : TypeId} (hT : AggT P t cs.size) (hb : w.heap[b]? = some (.cells cur T (0, 0))) (ho : o + cs.size ≤ cur.size) (h1 : ∀ v ∈ cs.toList, v.oneCell' = true) :
    (Instr.storeAt t (.pointer (some ⟨b, o, none⟩)) (.agg cs)).run P w = .ok () (w.setCells b o cs.toList) := by
  obtain ⟨⟨d, hu, hd⟩, hi⟩ := hT
  have hst := run_storeCells_cells (P := P) b o cs.toList 0 w (fun j hj => by
    rw [Nat.add_zero]
    have hlt : o + j < cur.size := by simp at hj; omega
    rw [cell_of hb (Array.getElem?_eq_getElem hlt)]
    rfl) (fun j _ => free_of hb) h1
  cases hq : P.info? t with
  | none => simp [hq] at hi
  | some i =>
    have hs : cs.size = i.size := by simp [hq] at hi; omega
    simp [Instr.storeAt, Instr.sureAddr, storeVar, sizeOf, typeInfo, hq, Value.cells, hs, Nat.add_zero] at hst ⊢
    rw [hst]
theorem exec_storeA {ρ : Operand → Value} {dst : Option Tmp} {ty : TypeId} {pos : String} {after : Array Edge} {g : Option (Nat × Bool)} {t : TypeId} {x y : Operand} {b o : Nat} {cs cur : Array Value} {T : TypeId} (hT : AggT P t cs.size) (hx : ρ x = .pointer (some ⟨b, o, none⟩)) (hy : ρ y = .agg cs) (hb : w.heap[b]? = some (.cells cur T (0, 0))) (ho : o + cs.size ≤ cur.size) (h1 : ∀ v ∈ cs.toList, v.oneCell' = true) :
    (execOp ρ ⟨dst, .store t x y, ty, pos, after, g⟩).run P w = .ok .skip (w.setCells b o cs.toList) := by
  simp only [execOp, hx, hy, Sem.run_bind, run_storeA hT hb ho h1, Result.andThen, Sem.run_pure]

theorem LOut.shape {v : Value} {xs : List α} (h : LOut en k e B w v xs) : ∃ a n c, v = .slice a n c := by
  rcases h.own.2 with ⟨hv, _⟩ | ⟨g, cap, cur, hv, _⟩
  · exact ⟨_, _, _, hv⟩
  · exact ⟨_, _, _, hv⟩
/-- What a list in a slice of its own looks like. -/
theorem LOut.whole {b off n cap : Nat} {xs : List α} (h : LOut en k e B w (.slice (some ⟨b, off, none⟩) n cap) xs) : off = 0 ∧ n = xs.length ∧ n ≤ cap ∧ cap ≤ maxLen ∧ ∃ cur, w.heap[b]? = some (.cells cur e (0, 0)) ∧ cur.size = cap * k ∧ cur.toList.take (n * k) = xs.flatMap en ∧ (xs.flatMap en).length = n * k := by
  rcases h.own with ⟨hl, ⟨hv, _⟩ | ⟨g, c, cur, hv, _, hg, h1, h2, h3, h4⟩⟩
  · cases hv
  · obtain ⟨⟨rfl, rfl⟩, hn, rfl⟩ : (b = g ∧ off = 0) ∧ n = xs.length ∧ cap = c := by simpa using hv
    subst hn
    exact ⟨rfl, rfl, h1, h2, cur, hg, h3, h4, hl⟩
theorem LOut.of_cells {b n cap : Nat} {xs : List α} {cur : Array Value} (hn : n = xs.length) (hb : w.heap[b]? = some (.cells cur e (0, 0))) (h1 : n ≤ cap) (h2 : cap ≤ maxLen) (h3 : cur.size = cap * k) (h4 : cur.toList.take (n * k) = xs.flatMap en) (hl : (xs.flatMap en).length = n * k) (hB : B ≤ b) (hBw : B ≤ w.heap.size) : LOut en k e B w (.slice (some ⟨b, 0, none⟩) n cap) xs := by
  subst hn
  exact ⟨⟨hl, .inr ⟨b, cap, cur, rfl, Nat.zero_le _, hb, h1, h2, h3, h4⟩⟩, fun r hr => by cases hr; exact hB, hBw⟩
theorem flat_len (hen : ∀ x, (en x).length = k) : ∀ xs : List α, (xs.flatMap en).length = xs.length * k
  | [] => by simp
  | x :: xs => by rw [List.flatMap_cons, List.length_append, hen, flat_len hen xs, List.length_cons, Nat.add_mul, Nat.one_mul, Nat.add_comm]
theorem flat_take (hen : ∀ x, (en x).length = k) : ∀ (xs : List α) (i : Nat), (xs.take i).flatMap en = (xs.flatMap en).take (i * k)
  | [], i => by simp
  | x :: xs, 0 => by simp
  | x :: xs, i + 1 => by
    rw [List.take_succ_cons, List.flatMap_cons, List.flatMap_cons, flat_take hen xs i, List.take_append, hen, show (i + 1) * k - k = i * k by rw [Nat.add_mul, Nat.one_mul, Nat.add_sub_cancel], List.take_of_length_le (l := en x) (by rw [hen, Nat.add_mul, Nat.one_mul]; exact Nat.le_add_left _ _)]
/-- One element stored. -/
theorem LOut.setA (hen : ∀ x, (en x).length = k) {b n cap : Nat} {xs : List α} (h : LOut en k e B w (.slice (some ⟨b, 0, none⟩) n cap) xs) {i : Nat} (hi : i < xs.length) (x : α) :
    LOut en k e B (w.setCells b (i * k) (en x)) (.slice (some ⟨b, 0, none⟩) n cap) (xs.set i x) := by
  obtain ⟨_, hn, h1, h2, cur, hb, h3, h4, hl⟩ := h.whole
  have hB : B ≤ b := h.lo b rfl
  have hik : i * k + k ≤ n * k := by
    have : (i + 1) * k ≤ n * k := Nat.mul_le_mul_right k (by omega)
    rw [Nat.add_mul, Nat.one_mul] at this
    exact this
  have hnc : n * k ≤ cap * k := Nat.mul_le_mul_right k h1
  have hl2 : ((xs.set i x).flatMap en).length = n * k := by rw [flat_len hen, List.length_set, hn]
  refine LOut.of_cells (by rw [List.length_set]; exact hn) (heap_setCells_at _ _ _ _ hb) h1 h2 (by rw [setMany_size]; exact h3) ?_ hl2 hB (by rw [size_setCells]; exact h.le)
  apply List.ext_getElem?
  intro j
  by_cases hj : j < n * k
  · rw [List.getElem?_take_of_lt hj]
    have hjc : j < cur.size := by omega
    rw [show (setMany cur (i * k) (en x)).toList[j]? = (setMany cur (i * k) (en x))[j]? by simp, setMany_get _ _ _ _ hjc, hen]
    have hold : cur[j]? = (xs.flatMap en)[j]? := by
      rw [← h4, List.getElem?_take_of_lt hj]; simp
    have hsplit : (xs.set i x).flatMap en = (xs.take i).flatMap en ++ (en x ++ (xs.drop (i + 1)).flatMap en) := by
      rw [List.set_eq_take_append_cons_drop, if_pos hi, List.flatMap_append, List.flatMap_cons]
    have hsplit0 : xs.flatMap en = (xs.take i).flatMap en ++ (en xs[i] ++ (xs.drop (i + 1)).flatMap en) := by
      conv => lhs; rw [← List.take_append_drop i xs, List.drop_eq_getElem_cons hi]
      rw [List.flatMap_append, List.flatMap_cons]
    have hlt : ((xs.take i).flatMap en).length = i * k := by rw [flat_len hen, List.length_take, Nat.min_eq_left (by omega)]
    rw [hsplit]
    by_cases c1 : j < i * k
    · rw [if_neg (by omega), hold, hsplit0, List.getElem?_append_left (by omega), List.getElem?_append_left (by omega)]
    · by_cases c2 : j < i * k + k
      · rw [if_pos (by omega), List.getElem?_append_right (by omega), hlt, List.getElem?_append_left (by rw [hen]; omega)]
      · rw [if_neg (by omega), hold, hsplit0, List.getElem?_append_right (by omega), List.getElem?_append_right (by rw [hen]; omega), List.getElem?_append_right (by omega), List.getElem?_append_right (by rw [hen]; omega), hen, hen]
  · rw [List.getElem?_eq_none (by rw [List.length_take]; omega), List.getElem?_eq_none (by omega)]
/-- The end cut off and cleared. -/
theorem LOut.cut (hen : ∀ x, (en x).length = k) {b n cap : Nat} {xs : List α} (h : LOut en k e B w (.slice (some ⟨b, 0, none⟩) n cap) xs) {i : Nat} (hi : i ≤ xs.length) (vs : List Value) :
    LOut en k e B (w.setCells b (i * k) vs) (.slice (some ⟨b, 0, none⟩) i cap) (xs.take i) := by
  obtain ⟨_, hn, h1, h2, cur, hb, h3, h4, hl⟩ := h.whole
  have hB : B ≤ b := h.lo b rfl
  have hik : i * k ≤ n * k := Nat.mul_le_mul_right k (by omega)
  have hnc : n * k ≤ cap * k := Nat.mul_le_mul_right k h1
  have hlen : (xs.take i).length = i := by rw [List.length_take, Nat.min_eq_left hi]
  have hl2 : ((xs.take i).flatMap en).length = i * k := by rw [flat_len hen, hlen]
  refine LOut.of_cells hlen.symm (heap_setCells_at _ _ _ _ hb) (by omega) h2 (by rw [setMany_size]; exact h3) ?_ hl2 hB (by rw [size_setCells]; exact h.le)
  rw [flat_take hen]
  apply List.ext_getElem?
  intro j
  by_cases hj : j < i * k
  · rw [List.getElem?_take_of_lt hj, List.getElem?_take_of_lt hj]
    rw [show (setMany cur (i * k) vs).toList[j]? = (setMany cur (i * k) vs)[j]? by simp, setMany_get _ _ _ _ (by omega), if_neg (by omega)]
    rw [← h4, List.getElem?_take_of_lt (by omega)]
    simp
  · rw [List.getElem?_eq_none (by rw [List.length_take]; omega), List.getElem?_eq_none (by rw [List.length_take]; omega)]

theorem zeroCells_len (zs : Array Value) (n : Nat) : (Builtin.zeroCells zs n).size = n * zs.size := by
  unfold Builtin.zeroCells
  simp
/-- clear of the end of such a slice. -/
theorem run_clearSl {t ty : TypeId} {z : Value} (ht : P.underlying t = some (.slice e)) (hz : ∀ w, (zeroValue e).run P w = .ok z w) (hzs : z.cells.size = k) (hz1 : ∀ n, ∀ v ∈ (Builtin.zeroCells z.cells n).toList, v.oneCell' = true) {b o n c : Nat} {cur : Array Value} {T : TypeId} (hb : w.heap[b]? = some (.cells cur T (0, 0))) (ho : o + n * k ≤ cur.size) (hn : 0 < n) :
    (Builtin.clear_ #[t] ty #[.slice (some ⟨b, o, none⟩) n c]).run P w = .ok (.tuple #[]) (w.setCells b o (Builtin.zeroCells z.cells n).toList) := by
  have hst := run_storeCells_cells (P := P) b o (Builtin.zeroCells z.cells n).toList 0 w (fun j hj => by
    rw [Nat.add_zero]
    have hlt : o + j < cur.size := by rw [Array.length_toList, zeroCells_len, hzs] at hj; omega
    rw [cell_of hb (Array.getElem?_eq_getElem hlt)]
    rfl) (fun j _ => free_of hb) (hz1 n)
  simp only [Nat.add_zero] at hst
  obtain ⟨m, rfl⟩ : ∃ m, n = m + 1 := ⟨n - 1, by omega⟩
  simp [Builtin.clear_, run_underlying ht, hz, hst]
theorem exec_clearSl {ρ : Operand → Value} {dst : Option Tmp} {ty : TypeId} {pos : String} {after : Array Edge} {g : Option (Nat × Bool)} {t : TypeId} {x : Operand} {z : Value} (ht : P.underlying t = some (.slice e)) (hz : ∀ w, (zeroValue e).run P w = .ok z w) (hzs : z.cells.size = k) (hz1 : ∀ n, ∀ v ∈ (Builtin.zeroCells z.cells n).toList, v.oneCell' = true) {b o n c : Nat} {cur : Array Value} {T : TypeId} (hx : ρ x = .slice (some ⟨b, o, none⟩) n c) (hb : w.heap[b]? = some (.cells cur T (0, 0))) (ho : o + n * k ≤ cur.size) (hn : 0 < n) :
    (execOp ρ ⟨dst, .call { callee := .builtin .clear, args := #[x], argTypes := #[t] }, ty, pos, after, g⟩).run P w = .ok (.value (.tuple #[])) (w.setCells b o (Builtin.zeroCells z.cells n).toList) := by
  simp only [execOp, resolve, invoke, builtin, Sem.run_bind, Sem.run_pure, Result.andThen_ok, List.map_toArray, List.map_cons, List.map_nil, hx, run_clearSl ht hz hzs hz1 hb ho hn]
end
end Go.Tn
