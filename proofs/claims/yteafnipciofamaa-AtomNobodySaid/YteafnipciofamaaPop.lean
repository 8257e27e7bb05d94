/- The ones of a number, as math/bits counts them: no program. -/
import Derived.Test.YteafnipciofamaaBits
import Derived.Laws.Entries
namespace Go.Tn.Bits

/-- A number of m bytes, the highest first. -/
def byt (c : Nat → Nat) : Nat → Nat
  | 0 => 0
  | m + 1 => byt c m * 256 + c m

theorem byt_num (f : Nat → Bool) : ∀ m, num f (8 * m) = byt (fun i => num (fun j => f (8 * i + j)) 8) m
  | 0 => rfl
  | m + 1 => by
    rw [show 8 * (m + 1) = 8 * m + 8 by omega, num_add, byt_num f m]
    rfl
theorem byt_lt {c : Nat → Nat} (h : ∀ i, c i < 256) : ∀ m, byt c m < 256 ^ m
  | 0 => by simp [byt]
  | m + 1 => by have := byt_lt h m; have := h m; simp only [byt, Nat.pow_succ]; omega

theorem and_split (A B : Nat) {a b : Nat} (ha : a < 256) (hb : b < 256) : (A * 256 + a) &&& (B * 256 + b) = (A &&& B) * 256 + (a &&& b) := by
  have hab : a &&& b < 256 := Nat.lt_of_le_of_lt Nat.and_le_left ha
  have e : ∀ (C : Nat) {c : Nat}, c < 256 → ∀ j, (C * 256 + c).testBit j = if j < 8 then c.testBit j else C.testBit (j - 8) := fun C c hc j => by
    have := Nat.testBit_two_pow_mul_add C (b := c) (i := 8) hc j
    rw [Nat.mul_comm] at this
    exact this
  apply Nat.eq_of_testBit_eq
  intro j
  rw [Nat.testBit_and, e A ha, e B hb, e _ hab]
  split <;> simp [Nat.testBit_and]

theorem fin1 : ∀ (r : Fin 2) (v : Fin 128), (r.val * 128 + v.val) &&& 85 = v.val &&& 85 := by decide +kernel
theorem fin2 : ∀ (r : Fin 4) (v : Fin 64), (r.val * 64 + v.val) &&& 51 = v.val &&& 51 := by decide +kernel
theorem fin3 : ∀ (r h l : Fin 5), (r.val * 16 + h.val + (h.val * 16 + l.val)) &&& 15 = h.val + l.val := by decide +kernel
theorem fin1' : ∀ (v : Fin 256), (v.val / 2 &&& 85) + (v.val &&& 85) < 256 := by decide +kernel
theorem fin2' : ∀ (v : Fin 256), (v.val / 4 &&& 51) + (v.val &&& 51) < 256 := by decide +kernel

theorem stage1 {c : Nat → Nat} (h : ∀ i, c i < 256) : ∀ m, (byt c m / 2 &&& byt (fun _ => 85) m) + (byt c m &&& byt (fun _ => 85) m) = byt (fun i => (c i / 2 &&& 85) + (c i &&& 85)) m
  | 0 => by simp [byt]
  | m + 1 => by
    have hm := h m
    simp only [byt]
    rw [← stage1 h m, and_split _ _ hm (by decide),
      show (byt c m * 256 + c m) / 2 = byt c m / 2 * 256 + (byt c m % 2 * 128 + c m / 2) by omega, and_split _ _ (by omega) (by decide)]
    have := fin1 ⟨byt c m % 2, by omega⟩ ⟨c m / 2, by omega⟩
    simp only at this
    rw [this]
    omega
theorem stage2 {c : Nat → Nat} (h : ∀ i, c i < 256) : ∀ m, (byt c m / 4 &&& byt (fun _ => 51) m) + (byt c m &&& byt (fun _ => 51) m) = byt (fun i => (c i / 4 &&& 51) + (c i &&& 51)) m
  | 0 => by simp [byt]
  | m + 1 => by
    have hm := h m
    simp only [byt]
    rw [← stage2 h m, and_split _ _ hm (by decide),
      show (byt c m * 256 + c m) / 4 = byt c m / 4 * 256 + (byt c m % 4 * 64 + c m / 4) by omega, and_split _ _ (by omega) (by decide)]
    have := fin2 ⟨byt c m % 4, by omega⟩ ⟨c m / 4, by omega⟩
    simp only at this
    rw [this]
    omega
theorem byt_mod {c : Nat → Nat} (h : ∀ i, c i / 16 ≤ 4 ∧ c i % 16 ≤ 4) : ∀ m, byt c m % 16 ≤ 4
  | 0 => by simp [byt]
  | m + 1 => by have := h m; simp only [byt]; omega
theorem stage3 {c : Nat → Nat} (h : ∀ i, c i / 16 ≤ 4 ∧ c i % 16 ≤ 4) : ∀ m, (byt c m / 16 + byt c m) &&& byt (fun _ => 15) m = byt (fun i => c i / 16 + c i % 16) m
  | 0 => by simp [byt]
  | m + 1 => by
    have hm := h m
    have hr := byt_mod h m
    simp only [byt]
    rw [← stage3 h m,
      show (byt c m * 256 + c m) / 16 + (byt c m * 256 + c m) = (byt c m / 16 + byt c m) * 256 + (byt c m % 16 * 16 + c m / 16 + (c m / 16 * 16 + c m % 16)) by omega, and_split _ _ (by omega) (by decide)]
    have := fin3 ⟨byt c m % 16, by omega⟩ ⟨c m / 16, by omega⟩ ⟨c m % 16, by omega⟩
    simp only at this
    rw [this]

def st1 (v : Nat) : Nat := (v / 2 &&& 85) + (v &&& 85)
def st2 (v : Nat) : Nat := (v / 4 &&& 51) + (v &&& 51)
def st3 (v : Nat) : Nat := v / 16 + v % 16
theorem st12 : ∀ v : Fin 256, st1 v.val < 256 ∧ st2 (st1 v.val) < 256 ∧ st2 (st1 v.val) / 16 ≤ 4 ∧ st2 (st1 v.val) % 16 ≤ 4 ∧ st3 (st2 (st1 v.val)) ≤ 8 := by decide +kernel
def ofB (b : Bool) (n : Nat) : Nat := n * 2 + b.toNat
theorem st_pop : ∀ b0 b1 b2 b3 b4 b5 b6 b7 : Bool, st3 (st2 (st1 (ofB b7 (ofB b6 (ofB b5 (ofB b4 (ofB b3 (ofB b2 (ofB b1 (ofB b0 0)))))))))) = 0 + b0.toNat + b1.toNat + b2.toNat + b3.toNat + b4.toNat + b5.toNat + b6.toNat + b7.toNat := by decide +kernel
theorem st_cnt (g : Nat → Bool) : st3 (st2 (st1 (num g 8))) = cnt g 8 := st_pop (g 0) (g 1) (g 2) (g 3) (g 4) (g 5) (g 6) (g 7)

/-- What OnesCount64 reckons, on numbers without a sign. -/
def ones (x : Nat) : Nat :=
  let a := (x / 2 &&& 6148914691236517205) + (x &&& 6148914691236517205)
  let b := (a / 4 &&& 3689348814741910323) + (a &&& 3689348814741910323)
  let c := (b / 16 + b) &&& 1085102592571150095
  let d := c + c / 256
  let e := d + d / 65536
  (e + e / 4294967296) % 128

theorem byt8 (c : Nat → Nat) : byt c 8 = ((((((((0 * 256 + c 0) * 256 + c 1) * 256 + c 2) * 256 + c 3) * 256 + c 4) * 256 + c 5) * 256 + c 6) * 256 + c 7) := rfl

theorem sum8_d (c0 c1 c2 c3 c4 c5 c6 c7 : Nat) (k0 : c0 ≤ 8) (k1 : c1 ≤ 8) (k2 : c2 ≤ 8) (k3 : c3 ≤ 8) (k4 : c4 ≤ 8) (k5 : c5 ≤ 8) (k6 : c6 ≤ 8) (k7 : c7 ≤ 8) (c d : Nat)
    (hc : c = ((((((((0 * 256 + c0) * 256 + c1) * 256 + c2) * 256 + c3) * 256 + c4) * 256 + c5) * 256 + c6) * 256 + c7)) (hd : d = c + c / 256) :
    d = ((((((((0 * 256 + c0) * 256 + (c0 + c1)) * 256 + (c1 + c2)) * 256 + (c2 + c3)) * 256 + (c3 + c4)) * 256 + (c4 + c5)) * 256 + (c5 + c6)) * 256 + (c6 + c7)) := by omega
theorem sum8_e (c0 c1 c2 c3 c4 c5 c6 c7 : Nat) (k0 : c0 ≤ 8) (k1 : c1 ≤ 8) (k2 : c2 ≤ 8) (k3 : c3 ≤ 8) (k4 : c4 ≤ 8) (k5 : c5 ≤ 8) (k6 : c6 ≤ 8) (k7 : c7 ≤ 8) (d e : Nat)
    (hd : d = ((((((((0 * 256 + c0) * 256 + (c0 + c1)) * 256 + (c1 + c2)) * 256 + (c2 + c3)) * 256 + (c3 + c4)) * 256 + (c4 + c5)) * 256 + (c5 + c6)) * 256 + (c6 + c7))) (he : e = d + d / 65536) :
    e = ((((((((0 * 256 + c0) * 256 + (c0 + c1)) * 256 + (c0 + c1 + c2)) * 256 + (c0 + c1 + c2 + c3)) * 256 + (c1 + c2 + c3 + c4)) * 256 + (c2 + c3 + c4 + c5)) * 256 + (c3 + c4 + c5 + c6)) * 256 + (c4 + c5 + c6 + c7)) := by omega
theorem sum8_q (c0 c1 c2 c3 c4 c5 c6 c7 : Nat) (k0 : c0 ≤ 8) (k1 : c1 ≤ 8) (k2 : c2 ≤ 8) (k3 : c3 ≤ 8) (k4 : c4 ≤ 8) (k5 : c5 ≤ 8) (k6 : c6 ≤ 8) (k7 : c7 ≤ 8) (e : Nat)
    (he : e = ((((((((0 * 256 + c0) * 256 + (c0 + c1)) * 256 + (c0 + c1 + c2)) * 256 + (c0 + c1 + c2 + c3)) * 256 + (c1 + c2 + c3 + c4)) * 256 + (c2 + c3 + c4 + c5)) * 256 + (c3 + c4 + c5 + c6)) * 256 + (c4 + c5 + c6 + c7))) :
    e / 4294967296 = ((((0 * 256 + c0) * 256 + (c0 + c1)) * 256 + (c0 + c1 + c2)) * 256 + (c0 + c1 + c2 + c3)) := by omega
theorem last8 (H G e q a b t : Nat) (he : e = H * 256 + a) (hq : q = G * 256 + b) (ht : a + b = t) (hl : t < 128) : (e + q) % 128 = t := by omega
theorem sum8 (c0 c1 c2 c3 c4 c5 c6 c7 : Nat) (k0 : c0 ≤ 8) (k1 : c1 ≤ 8) (k2 : c2 ≤ 8) (k3 : c3 ≤ 8) (k4 : c4 ≤ 8) (k5 : c5 ≤ 8) (k6 : c6 ≤ 8) (k7 : c7 ≤ 8) (c d e : Nat)
    (hc : c = ((((((((0 * 256 + c0) * 256 + c1) * 256 + c2) * 256 + c3) * 256 + c4) * 256 + c5) * 256 + c6) * 256 + c7)) (hd : d = c + c / 256) (he : e = d + d / 65536) :
    d < 18446744073709551616 ∧ e < 18446744073709551616 ∧ e + e / 4294967296 < 9223372036854775808 ∧ (e + e / 4294967296) % 128 = c0 + c1 + c2 + c3 + c4 + c5 + c6 + c7 := by
  have hd' := sum8_d c0 c1 c2 c3 c4 c5 c6 c7 k0 k1 k2 k3 k4 k5 k6 k7 c d hc hd
  have he' := sum8_e c0 c1 c2 c3 c4 c5 c6 c7 k0 k1 k2 k3 k4 k5 k6 k7 d e hd' he
  have hq := sum8_q c0 c1 c2 c3 c4 c5 c6 c7 k0 k1 k2 k3 k4 k5 k6 k7 e he'
  clear hc hd he
  exact ⟨by omega, by omega, by omega, last8 _ _ e (e / 4294967296) (c4 + c5 + c6 + c7) (c0 + c1 + c2 + c3) (c0 + c1 + c2 + c3 + c4 + c5 + c6 + c7) he' hq (by omega) (by omega)⟩

/-- All that is met on the way, and the end. -/
theorem ones_eq (f : Nat → Bool) : let x := num f 64
    let a := (x / 2 &&& 6148914691236517205) + (x &&& 6148914691236517205)
    let b := (a / 4 &&& 3689348814741910323) + (a &&& 3689348814741910323)
    let c := (b / 16 + b) &&& 1085102592571150095
    let d := c + c / 256
    let e := d + d / 65536
    a < 18446744073709551616 ∧ b < 18446744073709551616 ∧ b / 16 + b < 18446744073709551616 ∧ d < 18446744073709551616 ∧ e < 18446744073709551616 ∧ e + e / 4294967296 < 9223372036854775808 ∧ (e + e / 4294967296) % 128 = cnt f 64 := by
  intro x a b c d e
  have hlt : ∀ i, num (fun j => f (8 * i + j)) 8 < 256 := fun i => num_lt _ 8
  have s := fun i => st12 ⟨num (fun j => f (8 * i + j)) 8, hlt i⟩
  simp only at s
  have hx : x = byt (fun i => num (fun j => f (8 * i + j)) 8) 8 := byt_num f 8
  have ha : a = byt (fun i => st1 (num (fun j => f (8 * i + j)) 8)) 8 := by
    show (x / 2 &&& 6148914691236517205) + (x &&& 6148914691236517205) = _
    rw [hx]; exact stage1 hlt 8
  have hb : b = byt (fun i => st2 (st1 (num (fun j => f (8 * i + j)) 8))) 8 := by
    show (a / 4 &&& 3689348814741910323) + (a &&& 3689348814741910323) = _
    rw [ha]; exact stage2 (fun i => (s i).1) 8
  have hc : c = byt (fun i => st3 (st2 (st1 (num (fun j => f (8 * i + j)) 8)))) 8 := by
    show (b / 16 + b) &&& 1085102592571150095 = _
    rw [hb]; exact stage3 (fun i => ⟨(s i).2.2.1, (s i).2.2.2.1⟩) 8
  have hcnt : cnt f 64 = cnt (fun j => f (8 * 0 + j)) 8 + cnt (fun j => f (8 * 1 + j)) 8 + cnt (fun j => f (8 * 2 + j)) 8 + cnt (fun j => f (8 * 3 + j)) 8 + cnt (fun j => f (8 * 4 + j)) 8 + cnt (fun j => f (8 * 5 + j)) 8 + cnt (fun j => f (8 * 6 + j)) 8 + cnt (fun j => f (8 * 7 + j)) 8 := by
    rw [show (64 : Nat) = 8 * 7 + 8 from rfl, cnt_add, show 8 * 7 = 8 * 6 + 8 from rfl, cnt_add, show 8 * 6 = 8 * 5 + 8 from rfl, cnt_add, show 8 * 5 = 8 * 4 + 8 from rfl, cnt_add, show 8 * 4 = 8 * 3 + 8 from rfl, cnt_add, show 8 * 3 = 8 * 2 + 8 from rfl, cnt_add, show 8 * 2 = 8 * 1 + 8 from rfl, cnt_add]
    simp only [Nat.mul_zero, Nat.zero_add, Nat.mul_one]
  have hal := byt_lt (c := fun i => st1 (num (fun j => f (8 * i + j)) 8)) (fun i => (s i).1) 8
  have hbl := byt_lt (c := fun i => st2 (st1 (num (fun j => f (8 * i + j)) 8))) (fun i => (s i).2.1) 8
  rw [← ha] at hal
  rw [byt8] at hb hc
  have k := fun i => (s i).2.2.2.2
  have k0 := k 0; have k1 := k 1; have k2 := k 2; have k3 := k 3; have k4 := k 4; have k5 := k 5; have k6 := k 6; have k7 := k 7
  have l := fun i => (s i).2.2
  have l0 := l 0; have l1 := l 1; have l2 := l 2; have l3 := l 3; have l4 := l 4; have l5 := l 5; have l6 := l 6; have l7 := l 7
  rw [← st_cnt, ← st_cnt, ← st_cnt, ← st_cnt, ← st_cnt, ← st_cnt, ← st_cnt, ← st_cnt] at hcnt
  rw [hcnt]
  clear hcnt hx ha hlt s k l hbl
  have hd : d = c + c / 256 := rfl
  have he : e = d + d / 65536 := rfl
  clear_value a b c d e x
  generalize st3 (st2 (st1 (num (fun j => f (8 * 0 + j)) 8))) = c0 at *
  generalize st3 (st2 (st1 (num (fun j => f (8 * 1 + j)) 8))) = c1 at *
  generalize st3 (st2 (st1 (num (fun j => f (8 * 2 + j)) 8))) = c2 at *
  generalize st3 (st2 (st1 (num (fun j => f (8 * 3 + j)) 8))) = c3 at *
  generalize st3 (st2 (st1 (num (fun j => f (8 * 4 + j)) 8))) = c4 at *
  generalize st3 (st2 (st1 (num (fun j => f (8 * 5 + j)) 8))) = c5 at *
  generalize st3 (st2 (st1 (num (fun j => f (8 * 6 + j)) 8))) = c6 at *
  generalize st3 (st2 (st1 (num (fun j => f (8 * 7 + j)) 8))) = c7 at *
  generalize st2 (st1 (num (fun j => f (8 * 0 + j)) 8)) = b0 at *
  generalize st2 (st1 (num (fun j => f (8 * 1 + j)) 8)) = b1 at *
  generalize st2 (st1 (num (fun j => f (8 * 2 + j)) 8)) = b2 at *
  generalize st2 (st1 (num (fun j => f (8 * 3 + j)) 8)) = b3 at *
  generalize st2 (st1 (num (fun j => f (8 * 4 + j)) 8)) = b4 at *
  generalize st2 (st1 (num (fun j => f (8 * 5 + j)) 8)) = b5 at *
  generalize st2 (st1 (num (fun j => f (8 * 6 + j)) 8)) = b6 at *
  generalize st2 (st1 (num (fun j => f (8 * 7 + j)) 8)) = b7 at *
  have hb' : b ≤ 4919131752989213764 := by omega
  obtain ⟨s1, s2, s3, s4⟩ := sum8 c0 c1 c2 c3 c4 c5 c6 c7 k0 k1 k2 k3 k4 k5 k6 k7 c d e hc hd he
  exact ⟨hal, by omega, by omega, s1, s2, s3, s4⟩

/-! ### The model's words on them -/
theorem wrap_u64 (x : Nat) (h : x < 18446744073709551616) : IntKind.u64.wrap (x : Int) = (x : Int) := by
  simp [IntKind.wrap, IntKind.bits, IntKind.signed]
  omega
theorem bits_and (x y : Nat) (hx : x < 18446744073709551616) (hy : y < 18446744073709551616) : bits .and .u64 (x : Int) (y : Int) = ((x &&& y : Nat) : Int) := by
  have h : x &&& y < 18446744073709551616 := Nat.lt_of_le_of_lt Nat.and_le_left hx
  unfold Go.bits
  simp only [BitVec.ofInt_natCast]
  rw [BitVec.toNat_and, BitVec.toNat_ofNat, BitVec.toNat_ofNat]
  rw [Nat.mod_eq_of_lt (show x < 2 ^ IntKind.u64.bits from hx), Nat.mod_eq_of_lt (show y < 2 ^ IntKind.u64.bits from hy)]
  exact wrap_u64 _ h
theorem bits_or (x y : Nat) (hx : x < 18446744073709551616) (hy : y < 18446744073709551616) : bits .or .u64 (x : Int) (y : Int) = ((x ||| y : Nat) : Int) := by
  have h : x ||| y < 2 ^ 64 := Nat.or_lt_two_pow hx hy
  unfold Go.bits
  simp only [BitVec.ofInt_natCast]
  rw [BitVec.toNat_or, BitVec.toNat_ofNat, BitVec.toNat_ofNat]
  rw [Nat.mod_eq_of_lt (show x < 2 ^ IntKind.u64.bits from hx), Nat.mod_eq_of_lt (show y < 2 ^ IntKind.u64.bits from hy)]
  exact wrap_u64 _ h
theorem bits_xor (x y : Nat) (hx : x < 18446744073709551616) (hy : y < 18446744073709551616) : bits .xor .u64 (x : Int) (y : Int) = ((x ^^^ y : Nat) : Int) := by
  have h : x ^^^ y < 2 ^ 64 := Nat.xor_lt_two_pow hx hy
  unfold Go.bits
  simp only [BitVec.ofInt_natCast]
  rw [BitVec.toNat_xor, BitVec.toNat_ofNat, BitVec.toNat_ofNat]
  rw [Nat.mod_eq_of_lt (show x < 2 ^ IntKind.u64.bits from hx), Nat.mod_eq_of_lt (show y < 2 ^ IntKind.u64.bits from hy)]
  exact wrap_u64 _ h
end Go.Tn.Bits
