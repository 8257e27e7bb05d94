/- A part of a list in a slice: s[:i], s[i:]. No program. -/
import Derived.Test.YtbkblhoagfonjaaKSb4
import Derived.Laws.Entries
import Derived.Test.YtbkblhoagfonjaaKSb3
/- The ones of a number, as math/bits counts them: no program. -/
namespace Go.Tn.Bits

/-- A number of m bytes, the highest first. -/
def byt (c : Nat → Nat) : Nat → Nat
  | 0 => 0
  | m + 1 => byt c m * 256 + c m

theorem byt_num (f : Nat → Bool) : ∀ m, num f (8 * m) = byt (fun i => num (fun j => f (8 * i + j)) 8) m
  | 0 => rfl
  | m + 1 => by
    rw [show 8 * (m + 1) = 8 * m + 8 by omega, num_add, byt_num f m]
    rfl
theorem byt_lt {c : Nat → Nat} (h : ∀ i, c i < 256) : ∀ m, byt c m < 256 ^ m
  | 0 => by simp [byt]
  | m + 1 => by have := byt_lt h m; have := h m; simp only [byt, Nat.pow_succ]; omega

theorem and_split (A B : Nat) {a b : Nat} (ha : a < 256) (hb : b < 256) : (A * 256 + a) &&& (B * 256 + b) = (A &&& B) * 256 + (a &&& b) := by
  have hab : a &&& b < 256 := Nat.lt_of_le_of_lt Nat.and_le_left ha
  have e : ∀ (C : Nat) {c : Nat}, c < 256 → ∀ j, (C * 256 + c).testBit j = if j < 8 then c.testBit j else C.testBit (j - 8) := fun C c hc j => by
    have := Nat.testBit_two_pow_mul_add C (b := c) (i := 8) hc j
    rw [Nat.mul_comm] at this
    exact this
  apply Nat.eq_of_testBit_eq
  intro j
  rw [Nat.testBit_and, e A ha, e B hb, e _ hab]
  split <;> simp [Nat.testBit_and]

theorem fin1 : ∀ (r : Fin 2) (v : Fin 128), (r.val * 128 + v.val) &&& 85 = v.val &&& 85 := by decide +kernel
theorem fin2 : ∀ (r : Fin 4) (v : Fin 64), (r.val * 64 + v.val) &&& 51 = v.val &&& 51 := by decide +kernel
theorem fin3 : ∀ (r h l : Fin 5), (r.val * 16 + h.val + (h.val * 16 + l.val)) &&& 15 = h.val + l.val := by decide +kernel
theorem fin1' : ∀ (v : Fin 256), (v.val / 2 &&& 85) + (v.val &&& 85) < 256 := by decide +kernel
theorem fin2' : ∀ (v : Fin 256), (v.val / 4 &&& 51) + (v.val &&& 51) < 256 := by decide +kernel

theorem stage1 {c : Nat → Nat} (h : ∀ i, c i < 256) : ∀ m, (byt c m / 2 &&& byt (fun _ => 85) m) + (byt c m &&& byt (fun _ => 85) m) = byt (fun i => (c i / 2 &&& 85) + (c i &&& 85)) m
  | 0 => by simp [byt]
  | m + 1 => by
    have hm := h m
    simp only [byt]
    rw [← stage1 h m, and_split _ _ hm (by decide),
      show (byt c m * 256 + c m) / 2 = byt c m / 2 * 256 + (byt c m % 2 * 128 + c m / 2) by omega, and_split _ _ (by omega) (by decide)]
    have := fin1 ⟨byt c m % 2, by omega⟩ ⟨c m / 2, by omega⟩
    simp only at this
    rw [this]
    omega
theorem stage2 {c : Nat → Nat} (h : ∀ i, c i < 256) : ∀ m, (byt c m / 4 &&& byt (fun _ => 51) m) + (byt c m &&& byt (fun _ => 51) m) = byt (fun i => (c i / 4 &&& 51) + (c i &&& 51)) m
  | 0 => by simp [byt]
  | m + 1 => by
    have hm := h m
    simp only [byt]
    rw [← stage2 h m, and_split _ _ hm (by decide),
      show (byt c m * 256 + c m) / 4 = byt c m / 4 * 256 + (byt c m % 4 * 64 + c m / 4) by omega, and_split _ _ (by omega) (by decide)]
    have := fin2 ⟨byt c m % 4, by omega⟩ ⟨c m / 4, by omega⟩
    simp only at this
    rw [this]
    omega
theorem byt_mod {c : Nat → Nat} (h : ∀ i, c i / 16 ≤ 4 ∧ c i % 16 ≤ 4) : ∀ m, byt c m % 16 ≤ 4
  | 0 => by simp [byt]
  | m + 1 => by have := h m; simp only [byt]; omega
theorem stage3 {c : Nat → Nat} (h : ∀ i, c i / 16 ≤ 4 ∧ c i % 16 ≤ 4) : ∀ m, (byt c m / 16 + byt c m) &&& byt (fun _ => 15) m = byt (fun i => c i / 16 + c i % 16) m
  | 0 => by simp [byt]
  | m + 1 => by
    have hm := h m
    have hr := byt_mod h m
    simp only [byt]
    rw [← stage3 h m,
      show (byt c m * 256 + c m) / 16 + (byt c m * 256 + c m) = (byt c m / 16 + byt c m) * 256 + (byt c m % 16 * 16 + c m / 16 + (c m / 16 * 16 + c m % 16)) by omega, and_split _ _ (by omega) (by decide)]
    have := fin3 ⟨byt c m % 16, by omega⟩ ⟨c m / 16, by omega⟩ ⟨c m % 16, by omega⟩
    simp only at this
    rw [this]

def st1 (v : Nat) : Nat := (v / 2 &&& 85) + (v &&& 85)
def st2 (v : Nat) : Nat := (v / 4 &&& 51) + (v &&& 51)
def st3 (v : Nat) : Nat := v / 16 + v % 16
theorem st12 : ∀ v : Fin 256, st1 v.val < 256 ∧ st2 (st1 v.val) < 256 ∧ st2 (st1 v.val) / 16 ≤ 4 ∧ st2 (st1 v.val) % 16 ≤ 4 ∧ st3 (st2 (st1 v.val)) ≤ 8 := by decide +kernel
def ofB (b : Bool) (n : Nat) : Nat := n * 2 + b.toNat
theorem st_pop : ∀ b0 b1 b2 b3 b4 b5 b6 b7 : Bool, st3 (st2 (st1 (ofB b7 (ofB b6 (ofB b5 (ofB b4 (ofB b3 (ofB b2 (ofB b1 (ofB b0 0)))))))))) = 0 + b0.toNat + b1.toNat + b2.toNat + b3.toNat + b4.toNat + b5.toNat + b6.toNat + b7.toNat := by decide +kernel
theorem st_cnt (g : Nat → Bool) : st3 (st2 (st1 (num g 8))) = cnt g 8 := st_pop (g 0) (g 1) (g 2) (g 3) (g 4) (g 5) (g 6) (g 7)

/-- What OnesCount64 reckons, on numbers without a sign. -/
def ones (x : Nat) : Nat :=
  let a := (x / 2 &&& 6148914691236517205) + (x &&& 6148914691236517205)
  let b := (a / 4 &&& 3689348814741910323) + (a &&& 3689348814741910323)
  let c := (b / 16 + b) &&& 1085102592571150095
  let d := c + c / 256
  let e := d + d / 65536
  (e + e / 4294967296) % 128

theorem byt8 (c : Nat → Nat) : byt c 8 = ((((((((0 * 256 + c 0) * 256 + c 1) * 256 + c 2) * 256 + c 3) * 256 + c 4) * 256 + c 5) * 256 + c 6) * 256 + c 7) := rfl

theorem sum8_d (c0 c1 c2 c3 c4 c5 c6 c7 : Nat) (k0 : c0 ≤ 8) (k1 : c1 ≤ 8) (k2 : c2 ≤ 8) (k3 : c3 ≤ 8) (k4 : c4 ≤ 8) (k5 : c5 ≤ 8) (k6 : c6 ≤ 8) (k7 : c7 ≤ 8) (c d : Nat)
    (hc : c = ((((((((0 * 256 + c0) * 256 + c1) * 256 + c2) * 256 + c3) * 256 + c4) * 256 + c5) * 256 + c6) * 256 + c7)) (hd : d = c + c / 256) :
    d = ((((((((0 * 256 + c0) * 256 + (c0 + c1)) * 256 + (c1 + c2)) * 256 + (c2 + c3)) * 256 + (c3 + c4)) * 256 + (c4 + c5)) * 256 + (c5 + c6)) * 256 + (c6 + c7)) := by omega
theorem sum8_e (c0 c1 c2 c3 c4 c5 c6 c7 : Nat) (k0 : c0 ≤ 8) (k1 : c1 ≤ 8) (k2 : c2 ≤ 8) (k3 : c3 ≤ 8) (k4 : c4 ≤ 8) (k5 : c5 ≤ 8) (k6 : c6 ≤ 8) (k7 : c7 ≤ 8) (d e : Nat)
    (hd : d = ((((((((0 * 256 + c0) * 256 + (c0 + c1)) * 256 + (c1 + c2)) * 256 + (c2 + c3)) * 256 + (c3 + c4)) * 256 + (c4 + c5)) * 256 + (c5 + c6)) * 256 + (c6 + c7))) (he : e = d + d / 65536) :
    e = ((((((((0 * 256 + c0) * 256 + (c0 + c1)) * 256 + (c0 + c1 + c2)) * 256 + (c0 + c1 + c2 + c3)) * 256 + (c1 + c2 + c3 + c4)) * 256 + (c2 + c3 + c4 + c5)) * 256 + (c3 + c4 + c5 + c6)) * 256 + (c4 + c5 + c6 + c7)) := by omega
theorem sum8_q (c0 c1 c2 c3 c4 c5 c6 c7 : Nat) (k0 : c0 ≤ 8) (k1 : c1 ≤ 8) (k2 : c2 ≤ 8) (k3 : c3 ≤ 8) (k4 : c4 ≤ 8) (k5 : c5 ≤ 8) (k6 : c6 ≤ 8) (k7 : c7 ≤ 8) (e : Nat)
    (he : e = ((((((((0 * 256 + c0) * 256 + (c0 + c1)) * 256 + (c0 + c1 + c2)) * 256 + (c0 + c1 + c2 + c3)) * 256 + (c1 + c2 + c3 + c4)) * 256 + (c2 + c3 + c4 + c5)) * 256 + (c3 + c4 + c5 + c6)) * 256 + (c4 + c5 + c6 + c7))) :
    e / 4294967296 = ((((0 * 256 + c0) * 256 + (c0 + c1)) * 256 + (c0 + c1 + c2)) * 256 + (c0 + c1 + c2 + c3)) := by omega
theorem last8 (H G e q a b t : Nat) (he : e = H * 256 + a) (hq : q = G * 256 + b) (ht : a + b = t) (hl : t < 128) : (e + q) % 128 = t := by omega
theorem sum8 (c0 c1 c2 c3 c4 c5 c6 c7 : Nat) (k0 : c0 ≤ 8) (k1 : c1 ≤ 8) (k2 : c2 ≤ 8) (k3 : c3 ≤ 8) (k4 : c4 ≤ 8) (k5 : c5 ≤ 8) (k6 : c6 ≤ 8) (k7 : c7 ≤ 8) (c d e : Nat)
    (hc : c = ((((((((0 * 256 + c0) * 256 + c1) * 256 + c2) * 256 + c3) * 256 + c4) * 256 + c5) * 256 + c6) * 256 + c7)) (hd : d = c + c / 256) (he : e = d + d / 65536) :
    d < 18446744073709551616 ∧ e < 18446744073709551616 ∧ e + e / 4294967296 < 9223372036854775808 ∧ (e + e / 4294967296) % 128 = c0 + c1 + c2 + c3 + c4 + c5 + c6 + c7 := by
  have hd' := sum8_d c0 c1 c2 c3 c4 c5 c6 c7 k0 k1 k2 k3 k4 k5 k6 k7 c d hc hd
  have he' := sum8_e c0 c1 c2 c3 c4 c5 c6 c7 k0 k1 k2 k3 k4 k5 k6 k7 d e hd' he
  have hq := sum8_q c0 c1 c2 c3 c4 c5 c6 c7 k0 k1 k2 k3 k4 k5 k6 k7 e he'
  clear hc hd he
  exact ⟨by omega, by omega, by omega, last8 _ _ e (e / 4294967296) (c4 + c5 + c6 + c7) (c0 + c1 + c2 + c3) (c0 + c1 + c2 + c3 + c4 + c5 + c6 + c7) he' hq (by omega) (by omega)⟩

/-- All that is met on the way, and the end. -/
theorem ones_eq (f : Nat → Bool) : let x := num f 64
    let a := (x / 2 &&& 6148914691236517205) + (x &&& 6148914691236517205)
    let b := (a / 4 &&& 3689348814741910323) + (a &&& 3689348814741910323)
    let c := (b / 16 + b) &&& 1085102592571150095
    let d := c + c / 256
    let e := d + d / 65536
    a < 18446744073709551616 ∧ b < 18446744073709551616 ∧ b / 16 + b < 18446744073709551616 ∧ d < 18446744073709551616 ∧ e < 18446744073709551616 ∧ e + e / 4294967296 < 9223372036854775808 ∧ (e + e / 4294967296) % 128 = cnt f 64 := by
  intro x a b c d e
  have hlt : ∀ i, num (fun j => f (8 * i + j)) 8 < 256 := fun i => num_lt _ 8
  have s := fun i => st12 ⟨num (fun j => f (8 * i + j)) 8, hlt i⟩
  simp only at s
  have hx : x = byt (fun i => num (fun j => f (8 * i + j)) 8) 8 := byt_num f 8
  have ha : a = byt (fun i => st1 (num (fun j => f (8 * i + j)) 8)) 8 := by
    show (x / 2 &&& 6148914691236517205) + (x &&& 6148914691236517205) = _
    rw [hx]; exact stage1 hlt 8
  have hb : b = byt (fun i => st2 (st1 (num (fun j => f (8 * i + j)) 8))) 8 := by
    show (a / 4 &&& 3689348814741910323) + (a &&& 3689348814741910323) = _
    rw [ha]; exact stage2 (fun i => (s i).1) 8
  have hc : c = byt (fun i => st3 (st2 (st1 (num (fun j => f (8 * i + j)) 8)))) 8 := by
    show (b / 16 + b) &&& 1085102592571150095 = _
    rw [hb]; exact stage3 (fun i => ⟨(s i).2.2.1, (s i).2.2.2.1⟩) 8
  have hcnt : cnt f 64 = cnt (fun j => f (8 * 0 + j)) 8 + cnt (fun j => f (8 * 1 + j)) 8 + cnt (fun j => f (8 * 2 + j)) 8 + cnt (fun j => f (8 * 3 + j)) 8 + cnt (fun j => f (8 * 4 + j)) 8 + cnt (fun j => f (8 * 5 + j)) 8 + cnt (fun j => f (8 * 6 + j)) 8 + cnt (fun j => f (8 * 7 + j)) 8 := by
    rw [show (64 : Nat) = 8 * 7 + 8 from rfl, cnt_add, show 8 * 7 = 8 * 6 + 8 from rfl, cnt_add, show 8 * 6 = 8 * 5 + 8 from rfl, cnt_add, show 8 * 5 = 8 * 4 + 8 from rfl, cnt_add, show 8 * 4 = 8 * 3 + 8 from rfl, cnt_add, show 8 * 3 = 8 * 2 + 8 from rfl, cnt_add, show 8 * 2 = 8 * 1 + 8 from rfl, cnt_add]
    simp only [Nat.mul_zero, Nat.zero_add, Nat.mul_one]
  have hal := byt_lt (c := fun i => st1 (num (fun j => f (8 * i + j)) 8)) (fun i => (s i).1) 8
  have hbl := byt_lt (c := fun i => st2 (st1 (num (fun j => f (8 * i + j)) 8))) (fun i => (s i).2.1) 8
  rw [← ha] at hal
  rw [byt8] at hb hc
  have k := fun i => (s i).2.2.2.2
  have k0 := k 0; have k1 := k 1; have k2 := k 2; have k3 := k 3; have k4 := k 4; have k5 := k 5; have k6 := k 6; have k7 := k 7
  have l := fun i => (s i).2.2
  have l0 := l 0; have l1 := l 1; have l2 := l 2; have l3 := l 3; have l4 := l 4; have l5 := l 5; have l6 := l 6; have l7 := l 7
  rw [← st_cnt, ← st_cnt, ← st_cnt, ← st_cnt, ← st_cnt, ← st_cnt, ← st_cnt, ← st_cnt] at hcnt
  rw [hcnt]
  clear hcnt hx ha hlt s k l hbl
  have hd : d = c + c / 256 := rfl
  have he : e = d + d / 65536 := rfl
  clear_value a b c d e x
  generalize st3 (st2 (st1 (num (fun j => f (8 * 0 + j)) 8))) = c0 at *
  generalize st3 (st2 (st1 (num (fun j => f (8 * 1 + j)) 8))) = c1 at *
  generalize st3 (st2 (st1 (num (fun j => f (8 * 2 + j)) 8))) = c2 at *
  generalize st3 (st2 (st1 (num (fun j => f (8 * 3 + j)) 8))) = c3 at *
  generalize st3 (st2 (st1 (num (fun j => f (8 * 4 + j)) 8))) = c4 at *
  generalize st3 (st2 (st1 (num (fun j => f (8 * 5 + j)) 8))) = c5 at *
  generalize st3 (st2 (st1 (num (fun j => f (8 * 6 + j)) 8))) = c6 at *
  generalize st3 (st2 (st1 (num (fun j => f (8 * 7 + j)) 8))) = c7 at *
  generalize st2 (st1 (num (fun j => f (8 * 0 + j)) 8)) = b0 at *
  generalize st2 (st1 (num (fun j => f (8 * 1 + j)) 8)) = b1 at *
  generalize st2 (st1 (num (fun j => f (8 * 2 + j)) 8)) = b2 at *
  generalize st2 (st1 (num (fun j => f (8 * 3 + j)) 8)) = b3 at *
  generalize st2 (st1 (num (fun j => f (8 * 4 + j)) 8)) = b4 at *
  generalize st2 (st1 (num (fun j => f (8 * 5 + j)) 8)) = b5 at *
  generalize st2 (st1 (num (fun j => f (8 * 6 + j)) 8)) = b6 at *
  generalize st2 (st1 (num (fun j => f (8 * 7 + j)) 8)) = b7 at *
  have hb' : b ≤ 4919131752989213764 := by omega
  obtain ⟨s1, s2, s3, s4⟩ := sum8 c0 c1 c2 c3 c4 c5 c6 c7 k0 k1 k2 k3 k4 k5 k6 k7 c d e hc hd he
  exact ⟨hal, by omega, by omega, s1, s2, s3, s4⟩

/-! ### The model's words on them -/
theorem wrap_u64 (x : Nat) (h : x < 18446744073709551616) : IntKind.u64.wrap (x : Int) = (x : Int) := by
  simp [IntKind.wrap, IntKind.bits, IntKind.signed]
  omega
theorem bits_and (x y : Nat) (hx : x < 18446744073709551616) (hy : y < 18446744073709551616) : bits .and .u64 (x : Int) (y : Int) = ((x &&& y : Nat) : Int) := by
  have h : x &&& y < 18446744073709551616 := Nat.lt_of_le_of_lt Nat.and_le_left hx
  unfold Go.bits
  simp only [BitVec.ofInt_natCast]
  rw [BitVec.toNat_and, BitVec.toNat_ofNat, BitVec.toNat_ofNat]
  rw [Nat.mod_eq_of_lt (show x < 2 ^ IntKind.u64.bits from hx), Nat.mod_eq_of_lt (show y < 2 ^ IntKind.u64.bits from hy)]
  exact wrap_u64 _ h
theorem bits_or (x y : Nat) (hx : x < 18446744073709551616) (hy : y < 18446744073709551616) : bits .or .u64 (x : Int) (y : Int) = ((x ||| y : Nat) : Int) := by
  have h : x ||| y < 2 ^ 64 := Nat.or_lt_two_pow hx hy
  unfold Go.bits
  simp only [BitVec.ofInt_natCast]
  rw [BitVec.toNat_or, BitVec.toNat_ofNat, BitVec.toNat_ofNat]
  rw [Nat.mod_eq_of_lt (show x < 2 ^ IntKind.u64.bits from hx), Nat.mod_eq_of_lt (show y < 2 ^ IntKind.u64.bits from hy)]
  exact wrap_u64 _ h
theorem bits_xor (x y : Nat) (hx : x < 18446744073709551616) (hy : y < 18446744073709551616) : bits .xor .u64 (x : Int) (y : Int) = ((x ^^^ y : Nat) : Int) := by
  have h : x ^^^ y < 2 ^ 64 := Nat.xor_lt_two_pow hx hy
  unfold Go.bits
  simp only [BitVec.ofInt_natCast]
  rw [BitVec.toNat_xor, BitVec.toNat_ofNat, BitVec.toNat_ofNat]
  rw [Nat.mod_eq_of_lt (show x < 2 ^ IntKind.u64.bits from hx), Nat.mod_eq_of_lt (show y < 2 ^ IntKind.u64.bits from hy)]
  exact wrap_u64 _ h
end Go.Tn.Bits

/- A store of one cell, as one operation. No program. -/
namespace Go.Tn
open Go.RowKit
variable {P : Program}

def plainV : Value → Bool
  | .int _ _ | .bool _ | .string _ | .pointer _ | .slice _ _ _ | .map _ => true
  | _ => false

theorem exec_store1 {ρ : Operand → Value} {dst : Option Tmp} {ty : TypeId} {pos : String} {after : Array Edge} {g : Option (Nat × Bool)} {t : TypeId} {x y : Operand} {w : World} {b o : Nat} {v old : Value} (hT : ScalarT P t) (hsz : (P.info? t).map (·.size) = some 1) (hx : ρ x = .pointer (some ⟨b, o, none⟩)) (hy : ρ y = v) (h1 : plainV v = true) (hc : w.cell? ⟨b, o, none⟩ = some old) (hf : w.frozen? ⟨b, o, none⟩ = false) :
    (execOp ρ ⟨dst, .store t x y, ty, pos, after, g⟩).run P w = .ok .skip (w.setCell ⟨b, o, none⟩ v) := by
  obtain ⟨d, hu, hd⟩ := hT.plain
  have hagg : (isAgg t).run P w = .ok false w := by cases d <;> simp at hd <;> simp [isAgg, underlying, hu]
  cases hq : P.info? t with
  | none => simp [hq] at hsz
  | some i =>
    have hs : i.size = 1 := by simpa [hq] using hsz
    have hso : (sizeOf t).run P w = .ok 1 w := by simp [sizeOf, typeInfo, hq, hs]
    cases v <;> first
      | (simp [execOp, hx, hy, Instr.storeAt, Instr.sureAddr, storeVar, hso, storeCells, hc, hf, go_sem]; done)
      | (exfalso; simp [plainV] at h1; done)

/-- An array's element. -/
theorem run_index1 {t e : TypeId} {n : Nat} {k : IntKind} {cs : Array Value} {i : Nat} {v : Value} {w : World} (ht : P.underlying t = some (.array n e)) (hT : ScalarT P e) (hsz : (P.info? e).map (·.size) = some 1) (hi : i < n) (hg : cs[i]? = some v) :
    (Instr.index t (.agg cs) (.int k i)).run P w = .ok v w := by
  obtain ⟨d, hu, hd⟩ := hT.plain
  have hagg : (isAgg e).run P w = .ok false w := by cases d <;> simp at hd <;> simp [isAgg, underlying, hu]
  cases hq : P.info? e with
  | none => simp [hq] at hsz
  | some x =>
    have hs : x.size = 1 := by simpa [hq] using hsz
    have hso : (sizeOf e).run P w = .ok 1 w := by simp [sizeOf, typeInfo, hq, hs]
    have h0 : (0 : Int) ≤ (i : Int) ∧ (i : Int) < (n : Int) := by omega
    simp [Instr.index, asIntOf, underlying, ht, hso, part, hagg, hg]
    omega
theorem exec_index1 {ρ : Operand → Value} {dst : Option Tmp} {ty : TypeId} {pos : String} {after : Array Edge} {g : Option (Nat × Bool)} {t e : TypeId} {n : Nat} {k : IntKind} {cs : Array Value} {i : Nat} {v : Value} {w : World} {x y : Operand} (ht : P.underlying t = some (.array n e)) (hT : ScalarT P e) (hsz : (P.info? e).map (·.size) = some 1) (hx : ρ x = .agg cs) (hy : ρ y = .int k i) (hi : i < n) (hg : cs[i]? = some v) :
    (execOp ρ ⟨dst, .index t x y, ty, pos, after, g⟩).run P w = .ok (.value v) w := by
  simp only [execOp, hx, hy, Sem.run_bind, run_index1 ht hT hsz hi hg, Result.andThen_ok, Sem.run_pure]
end Go.Tn

namespace Go.Tn.Bits
theorem fst_eq {g : Nat → Bool} {i n : Nat} (h : ∀ j, j < i → g j = false) (hi : g i = true) (hn : i < n) : fst g n = i := by
  rcases Nat.lt_trichotomy (fst g n) i with h1 | h1 | h1
  · have := fst_some (f := g) (m := n) (by omega)
    rw [h _ h1] at this; cases this
  · exact h1
  · have := fst_none (f := g) (m := n) h1
    rw [hi] at this; cases this
theorem fst_full {g : Nat → Bool} {n : Nat} (h : ∀ j, j < n → g j = false) : fst g n = n := by
  have hle := fst_le g n
  rcases Nat.lt_or_ge (fst g n) n with h1 | h1
  · have := fst_some (f := g) (m := n) h1
    rw [h _ h1] at this; cases this
  · omega
end Go.Tn.Bits

/- Lists in slices, elements of some cells each: read, owned, appended to. No program. -/
namespace Go.Tn
open Go.RowKit
variable {P : Program} {α : Type} {en : α → List Value} {k : Nat} {e t : TypeId}

theorem get_flatMap (hen : ∀ x, (en x).length = k) : ∀ (xs : List α) (i j : Nat) (x : α), xs[i]? = some x → j < k → (xs.flatMap en)[i * k + j]? = (en x)[j]?
  | [], i, j, x, h, _ => by simp at h
  | y :: ys, 0, j, x, h, hj => by
    have : y = x := by simpa using h
    subst this
    rw [List.flatMap_cons, Nat.zero_mul, Nat.zero_add, List.getElem?_append_left (by rw [hen]; exact hj)]
  | y :: ys, i + 1, j, x, h, hj => by
    have hx : ys[i]? = some x := by simpa using h
    have e1 : (i + 1) * k + j = (en y).length + (i * k + j) := by rw [hen, Nat.add_mul]; omega
    rw [List.flatMap_cons, e1, List.getElem?_append_right (Nat.le_add_right _ _), Nat.add_sub_cancel_left]
    exact get_flatMap hen ys i j x hx hj
theorem len_flatMap (hen : ∀ x, (en x).length = k) : ∀ xs : List α, (xs.flatMap en).length = xs.length * k
  | [] => by simp
  | y :: ys => by rw [List.flatMap_cons, List.length_append, hen, len_flatMap hen ys, List.length_cons, Nat.add_mul]; omega

/-- The slice can be read: its elements lie. -/
def LSl (en : α → List Value) (k : Nat) (w : World) (v : Value) (xs : List α) : Prop :=
  ∃ ao cap, v = .slice ao xs.length cap ∧ xs.length ≤ cap ∧ cap ≤ maxLen ∧ (0 < xs.length → ∃ b off, ao = some ⟨b, off, none⟩ ∧ b < w.heap.size ∧ ∀ (i : Nat) (x : α), xs[i]? = some x → Lies w b (off + i * k) (en x).toArray)
theorem Lies.below' {w w' : World} {b o B : Nat} {cs : Array Value} (h : Lies w b o cs) (hb : Below B w w') (hB : b < B) : Lies w' b o cs := fun j hj => (hb.cell (p := ⟨b, o + j, none⟩) hB).trans (h j hj)
theorem LSl.nil (w : World) : LSl en k w (.slice none 0 0) [] := ⟨none, 0, rfl, Nat.le_refl _, Nat.zero_le _, fun h => absurd h (Nat.lt_irrefl _)⟩
theorem LSl.below {w w' : World} {v : Value} {xs : List α} (h : LSl en k w v xs) (hb : Below w.heap.size w w') : LSl en k w' v xs := by
  obtain ⟨ao, cap, rfl, h1, h2, h3⟩ := h
  refine ⟨ao, cap, rfl, h1, h2, fun h0 => ?_⟩
  obtain ⟨b, off, rfl, hlt, hc⟩ := h3 h0
  exact ⟨b, off, rfl, Nat.lt_of_lt_of_le hlt hb.size, fun i x hi => (hc i x hi).below' hb hlt⟩
theorem LSl.lit {w : World} {x : α} (hen : ∀ x, (en x).length = k) (T : TypeId) : LSl en k (w.alloc (.cells (en x).toArray T)) (.slice (some ⟨w.heap.size, 0, none⟩) 1 1) [x] := by
  refine ⟨_, 1, rfl, by simp, by unfold maxLen; decide, fun _ => ⟨w.heap.size, 0, rfl, by simp, fun i y hi => ?_⟩⟩
  cases i with
  | zero =>
    have : x = y := by simpa using hi
    subst this
    rw [Nat.zero_mul]
    exact lies_of heap_alloc_at
  | succ i => simp at hi
/-- A part of a slice. -/
theorem LSl.at_ {w : World} {v : Value} {xs : List α} (h : LSl en k w v xs) {i : Nat} {x : α} (hi : xs[i]? = some x) : ∃ b off cap, v = .slice (some ⟨b, off, none⟩) xs.length cap ∧ b < w.heap.size ∧ Lies w b (off + i * k) (en x).toArray := by
  obtain ⟨ao, cap, rfl, h1, h2, h3⟩ := h
  have hlt := (List.getElem?_eq_some_iff.1 hi).1
  obtain ⟨b, off, rfl, hlt2, hc⟩ := h3 (by omega)
  exact ⟨b, off, cap, rfl, hlt2, hc i x hi⟩

/-- A list of one's own. -/
structure LOut (en : α → List Value) (k : Nat) (e : TypeId) (B : Nat) (w : World) (v : Value) (xs : List α) : Prop where
  own : w.ownsRow 0 e k v xs.length (xs.flatMap en)
  lo : ∀ r, v.ownBlock = some r → B ≤ r
  le : B ≤ w.heap.size
theorem LOut.nil {B : Nat} {w : World} (h : B ≤ w.heap.size) : LOut en k e B w (.slice none 0 0) ([] : List α) :=
  ⟨⟨by simp, .inl ⟨rfl, rfl⟩⟩, (fun r hr => by cases hr), h⟩
theorem LOut.kept {B : Nat} {w w' : World} {v : Value} {xs : List α} (h : LOut en k e B w v xs) (hs : w.heap.size ≤ w'.heap.size) (hb : ∀ r, v.ownBlock = some r → w'.heap[r]? = w.heap[r]?) : LOut en k e B w' v xs := by
  refine ⟨⟨h.own.1, ?_⟩, h.lo, Nat.le_trans h.le hs⟩
  rcases h.own.2 with h2 | ⟨g, cap, cur, hv, h0, hg, r⟩
  · exact .inl h2
  · exact .inr ⟨g, cap, cur, hv, h0, (hb g (by rw [hv]; rfl)).trans hg, r⟩
theorem LOut.lt {B : Nat} {w : World} {v : Value} {xs : List α} (h : LOut en k e B w v xs) {r : Nat} (hr : v.ownBlock = some r) : r < w.heap.size := by
  rcases h.own.2 with ⟨hv, _⟩ | ⟨g, cap, cur, hv, _, hg, _⟩
  · rw [hv] at hr; cases hr
  · rw [hv] at hr; cases hr; exact lt_of_block hg
theorem LOut.below {B : Nat} {w w' : World} {v : Value} {xs : List α} (h : LOut en k e B w v xs) (hb : Below w.heap.size w w') : LOut en k e B w' v xs :=
  h.kept hb.size fun _ hr => hb.block _ (h.lt hr)
theorem LOut.mono {B B' : Nat} {w : World} {v : Value} {xs : List α} (h : LOut en k e B w v xs) (hB : B' ≤ B) : LOut en k e B' w v xs :=
  ⟨h.own, fun r hr => Nat.le_trans hB (h.lo r hr), Nat.le_trans hB h.le⟩
theorem LOut.sl {B : Nat} {w : World} {v : Value} {xs : List α} (hen : ∀ x, (en x).length = k) (h : LOut en k e B w v xs) : LSl en k w v xs := by
  rcases h.own.2 with ⟨hv, h0⟩ | ⟨g, cap, cur, hv, _, hg, hn, hm, hs, ht⟩
  · have : xs = [] := List.eq_nil_of_length_eq_zero h0
    subst this
    subst hv
    exact LSl.nil w
  · refine ⟨_, cap, hv, hn, hm, fun _ => ⟨g, 0, rfl, lt_of_block hg, fun i x hi j hj => ?_⟩⟩
    have hj' : j < k := by simpa [hen] using hj
    refine cell_of hg ?_
    have h1 := get_flatMap hen xs i j x hi hj'
    rw [← ht, List.getElem?_take] at h1
    split at h1
    · rw [Nat.zero_add]
      rw [Array.getElem?_toList] at h1
      rw [h1]
      simp
    · rw [List.getElem?_eq_getElem (by rw [hen]; exact hj')] at h1
      cases h1

/-- A slice's type and its elements'. -/
structure ElT (P : Program) (t e : TypeId) (k : Nat) (en : α → List Value) : Prop where
  sl : P.underlying t = some (.slice e)
  info : (P.info? e).map (fun i => (i.zero.map (fun z => z.cells.size), i.size, decide (i.bytes ≤ 1000))) = some (some k, k, true)
  pos : 0 < k
  len : ∀ x, (en x).length = k
  one : ∀ x, ∀ u ∈ en x, u.oneCell' = true

theorem run_appendMX (E : ElT P t e k en) {ty : TypeId} {B : Nat} {w : World} {v u : Value} {xs ys : List α} (h : LOut en k e B w v xs) (hu : LSl en k w u ys) (hsz : xs.length + ys.length ≤ 10000000000) :
    ∃ v' w', (Builtin.append_ #[t, t] ty #[v, u]).run P w = .ok v' w' ∧ LOut en k e B w' v' (xs ++ ys) ∧ w.grownBy w' v.ownBlock ∧ (v'.ownBlock = v.ownBlock ∨ v'.ownBlock = some w.heap.size) := by
  obtain ⟨i, hi, hI⟩ : ∃ i, P.info? e = some i ∧ (i.zero.map (fun z => z.cells.size), i.size, decide (i.bytes ≤ 1000)) = (some k, k, true) := by
    have := E.info
    cases hq : P.info? e with
    | none => simp [hq] at this
    | some i => exact ⟨i, rfl, by simpa [hq] using this⟩
  obtain ⟨hz0, hI⟩ := Prod.mk.inj hI
  obtain ⟨hsize, hby⟩ := Prod.mk.inj hI
  obtain ⟨z, hz, hzs⟩ : ∃ z, i.zero = some z ∧ z.cells.size = k := by
    cases hq : i.zero with
    | none => simp [hq] at hz0
    | some z => exact ⟨z, rfl, by simpa [hq] using hz0⟩
  have hby' : i.bytes ≤ 1000 := of_decide_eq_true hby
  obtain ⟨ao, cap, rfl, hu1, hu2, hu3⟩ := hu
  have go : ∀ a : Addr, ao = some a → (∀ j u, (ys.flatMap en)[j]? = some u → w.cell? (a.add j) = some u) → ∃ v' w', (Builtin.append_ #[t, t] ty #[v, .slice ao ys.length cap]).run P w = .ok v' w' ∧ LOut en k e B w' v' (xs ++ ys) ∧ w.grownBy w' v.ownBlock ∧ (v'.ownBlock = v.ownBlock ∨ v'.ownBlock = some w.heap.size) := fun a ha hc => by
    subst ha
    obtain ⟨v', w', h1, h2, h3, _, h5⟩ := run_append_own_at (P := P) w 0 t ty e i z k i.bytes E.sl hi hz hsize rfl hzs E.pos v xs.length (xs.flatMap en) h.own a ys.length cap (ys.flatMap en) (len_flatMap E.len ys) hc (fun u hu => by
      obtain ⟨x, _, hx⟩ := List.mem_flatMap.1 hu
      exact E.one x u hx) (by unfold maxLen; omega) (by
        have : (xs.length + ys.length) * i.bytes ≤ 10000000000 * 1000 := Nat.mul_le_mul hsz hby'
        omega) (Nat.zero_le _)
    refine ⟨v', w', h1, ⟨by rw [List.length_append, List.flatMap_append]; exact h2, fun r hr => ?_, Nat.le_trans h.le h3.size⟩, h3, h5⟩
    rcases h5 with h5 | h5
    · exact h.lo r (h5 ▸ hr)
    · rw [h5] at hr
      cases hr
      exact h.le
  by_cases hy : 0 < ys.length
  · obtain ⟨b, off, rfl, hlt, hc⟩ := hu3 hy
    refine go _ rfl fun j u hj => ?_
    have hjl := (List.getElem?_eq_some_iff.1 hj).1
    rw [len_flatMap E.len] at hjl
    have hk := E.pos
    have hdm : j / k * k + j % k = j := by rw [Nat.mul_comm]; exact Nat.div_add_mod j k
    have hjk : j / k < ys.length := Nat.div_lt_of_lt_mul (by rw [Nat.mul_comm]; exact hjl)
    have hx : ys[j / k]? = some ys[j / k] := List.getElem?_eq_getElem hjk
    have hm : j % k < k := Nat.mod_lt _ hk
    have h1 := get_flatMap E.len ys (j / k) (j % k) _ hx hm
    rw [hdm, hj] at h1
    have h2 := hc _ _ hx (j % k) (by simpa [E.len] using hm)
    rw [addr_add]
    rw [show off + j = off + j / k * k + j % k by omega, h2]
    have h3 : (en ys[j / k])[j % k]? = some ((en ys[j / k])[j % k]'(by rw [E.len]; exact hm)) := List.getElem?_eq_getElem _
    rw [h3] at h1
    rw [h1]
    simp
  · have hy0 : ys = [] := List.eq_nil_of_length_eq_zero (by omega)
    subst hy0
    cases ao with
    | some a => exact go a rfl (by simp)
    | none =>
      refine ⟨v, w, ?_, by simpa using h, World.grownBy.refl _ _, .inl rfl⟩
      rcases h.own.2 with ⟨hv, h0⟩ | ⟨g, cap', cur, hv, _, hg, hn, hm, hs, ht⟩
      · have : xs = [] := List.eq_nil_of_length_eq_zero h0
        subst this
        subst hv
        simp [Builtin.append_, run_underlying E.sl, sizeOf, typeInfo, hi, Builtin.lenOf, Builtin.firstCells]
      · subst hv
        simp [Builtin.append_, run_underlying E.sl, sizeOf, typeInfo, hi, Builtin.lenOf, Builtin.firstCells, hn, storeCells]
theorem run_appendM (E : ElT P t e k en) {ty : TypeId} {B : Nat} {w : World} {v u : Value} {xs ys : List α} (h : LOut en k e B w v xs) (hu : LSl en k w u ys) (hsz : xs.length + ys.length ≤ 100000) :
    ∃ v' w', (Builtin.append_ #[t, t] ty #[v, u]).run P w = .ok v' w' ∧ LOut en k e B w' v' (xs ++ ys) ∧ w.grownBy w' v.ownBlock ∧ (v'.ownBlock = v.ownBlock ∨ v'.ownBlock = some w.heap.size) :=
  run_appendMX E h hu (by omega)
theorem wpList_appendMX {ops : Array Oper} {rest : List Oper} {a : Act} {Q : Exit → Act → World → Prop} (E : ElT P t e k en) {B : Nat} {w : World} {v u : Value} {xs ys : List α} (h : LOut en k e B w v xs) (hu : LSl en k w u ys) (hsz : xs.length + ys.length ≤ 10000000000) {dst : Option Tmp} {ty : TypeId} {pos : String} {after : Array Edge} {s y : Operand}
    (hs : a.eval s = v) (hy : a.eval y = u)
    (hk : ∀ v' w', LOut en k e B w' v' (xs ++ ys) → Below B w w' → w.grownBy w' v.ownBlock → wpList P ops Q rest (a.put dst v') w') :
    wpList P ops Q ({ dst := dst, op := .call { callee := .builtin .append, args := #[s, y], argTypes := #[t, t] }, type := ty, pos := pos, after := after, guard := none } :: rest) a w := by
  obtain ⟨v', w', hr, ho, hg, _⟩ := run_appendMX E (ty := ty) h hu hsz
  refine wpList_exec rfl (v := v') (w' := w') ?_ (hk v' w' ho ((Below.refl B w).grown hg h.le h.lo) hg)
  simp only [execOp, resolve, invoke, builtin, Sem.run_bind, Sem.run_pure, Result.andThen_ok, List.map_toArray, List.map_cons, List.map_nil, hs, hy, hr]
theorem wpList_appendM {ops : Array Oper} {rest : List Oper} {a : Act} {Q : Exit → Act → World → Prop} (E : ElT P t e k en) {B : Nat} {w : World} {v u : Value} {xs ys : List α} (h : LOut en k e B w v xs) (hu : LSl en k w u ys) (hsz : xs.length + ys.length ≤ 100000) {dst : Option Tmp} {ty : TypeId} {pos : String} {after : Array Edge} {s y : Operand}
    (hs : a.eval s = v) (hy : a.eval y = u)
    (hk : ∀ v' w', LOut en k e B w' v' (xs ++ ys) → Below B w w' → w.grownBy w' v.ownBlock → wpList P ops Q rest (a.put dst v') w') :
    wpList P ops Q ({ dst := dst, op := .call { callee := .builtin .append, args := #[s, y], argTypes := #[t, t] }, type := ty, pos := pos, after := after, guard := none } :: rest) a w :=
  wpList_appendMX E h hu (by omega) hs hy hk
/-- 'append(s, x)': the list of one element is laid in a block of its own. -/
theorem wpList_append1X {ops : Array Oper} {rest : List Oper} {a : Act} {Q : Exit → Act → World → Prop} (E : ElT P t e k en) {B : Nat} {w wx : World} {v : Value} {xs : List α} (h : LOut en k e B w v xs) (x : α) (hsz : xs.length ≤ 1000000000) {dst : Option Tmp} {ty : TypeId} {pos : String} {after : Array Edge} {s y : Operand}
    (hwx : wx = w.alloc (.cells (en x).toArray e)) (hs : a.eval s = v) (hy : a.eval y = .slice (some ⟨w.heap.size, 0, none⟩) 1 1)
    (hk : ∀ v' w', LOut en k e B w' v' (xs ++ [x]) → Below B w w' → wpList P ops Q rest (a.put dst v') w') :
    wpList P ops Q ({ dst := dst, op := .call { callee := .builtin .append, args := #[s, y], argTypes := #[t, t] }, type := ty, pos := pos, after := after, guard := none } :: rest) a wx := by
  subst hwx
  exact wpList_appendMX E (h.below ((Below.refl _ _).alloc (Nat.le_refl _) _)) (LSl.lit E.len e) (by simp; omega) hs hy fun v' w' ho hb _ => hk v' w' ho (((Below.refl _ _).alloc h.le _).trans hb)
theorem wpList_append1 {ops : Array Oper} {rest : List Oper} {a : Act} {Q : Exit → Act → World → Prop} (E : ElT P t e k en) {B : Nat} {w wx : World} {v : Value} {xs : List α} (h : LOut en k e B w v xs) (x : α) (hsz : xs.length ≤ 1000) {dst : Option Tmp} {ty : TypeId} {pos : String} {after : Array Edge} {s y : Operand}
    (hwx : wx = w.alloc (.cells (en x).toArray e)) (hs : a.eval s = v) (hy : a.eval y = .slice (some ⟨w.heap.size, 0, none⟩) 1 1)
    (hk : ∀ v' w', LOut en k e B w' v' (xs ++ [x]) → Below B w w' → wpList P ops Q rest (a.put dst v') w') :
    wpList P ops Q ({ dst := dst, op := .call { callee := .builtin .append, args := #[s, y], argTypes := #[t, t] }, type := ty, pos := pos, after := after, guard := none } :: rest) a wx :=
  wpList_append1X E h x (by omega) hwx hs hy hk
end Go.Tn

/- A part of a list in a slice: s[:i], s[i:]. No program. -/
namespace Go.Tn
open Go.RowKit
variable {P : Program} {α : Type} {en : α → List Value} {k : Nat} {e t : TypeId}

theorem add_zero (a : Addr) : a.add 0 = a := by
  cases a with
  | mk b o s => cases s <;> simp [Addr.add]
theorem sizeOf_of (hs : (P.info? e).map (·.size) = some k) (w : World) : (sizeOf e).run P w = .ok k w := by
  cases hq : P.info? e with
  | none => simp [hq] at hs
  | some i =>
    have : i.size = k := by simpa [hq] using hs
    simp [sizeOf, typeInfo, hq, this]
theorem exec_sliceHi {ρ : Operand → Value} {dst : Option Tmp} {ty : TypeId} {pos : String} {after : Array Edge} {g : Option (Nat × Bool)} {x y : Operand} {w : World} {ao : Option Addr} {len cap i : Nat} (hu : P.underlying t = some (.slice e)) (hs : (P.info? e).map (·.size) = some k) (hi : i ≤ cap) (hx : ρ x = .slice ao len cap) (hy : ρ y = .int .i64 i) :
    (execOp ρ ⟨dst, .slice t x none (some y) none, ty, pos, after, g⟩).run P w = .ok (.value (.slice ao i cap)) w := by
  have h0 : (0 : Int) ≤ (i : Int) ∧ (i : Int) ≤ (cap : Int) := by omega
  have ha : (if cap = 0 then ao else ao.map (·.add 0)) = ao := by
    split
    · rfl
    · cases ao with
      | none => rfl
      | some a => simp [add_zero]
  simp only [execOp, hx, hy, Option.map_some, Option.map_none, Instr.sliceAt, Instr.slice, Instr.sliceBounds, Instr.sliceBound, asIntOf, run_underlying hu, Sem.run_bind, Sem.run_pure, Result.andThen_ok, h0, and_self, if_true, sizeOf_of hs, Int.toNat_natCast, Nat.zero_mul, Nat.sub_zero, ha]
theorem exec_sliceLo {ρ : Operand → Value} {dst : Option Tmp} {ty : TypeId} {pos : String} {after : Array Edge} {g : Option (Nat × Bool)} {x y : Operand} {w : World} {ao : Option Addr} {len cap i : Nat} (hu : P.underlying t = some (.slice e)) (hs : (P.info? e).map (·.size) = some k) (hi : i ≤ len) (hx : ρ x = .slice ao len cap) (hy : ρ y = .int .i64 i) :
    (execOp ρ ⟨dst, .slice t x (some y) none none, ty, pos, after, g⟩).run P w = .ok (.value (.slice (if cap = i then ao else ao.map (·.add (i * k))) (len - i) (cap - i))) w := by
  have h0 : (0 : Int) ≤ (i : Int) ∧ (i : Int) ≤ (len : Int) := by omega
  simp [execOp, hx, hy, Instr.sliceAt, Instr.slice, Instr.sliceBounds, Instr.sliceBound, asIntOf, run_underlying hu, h0, sizeOf_of hs]
  intro hlt
  omega
theorem LSl.take {w : World} {ao : Option Addr} {n cap : Nat} {xs : List α} (h : LSl en k w (.slice ao n cap) xs) {i : Nat} (hi : i ≤ xs.length) : LSl en k w (.slice ao i cap) (xs.take i) := by
  obtain ⟨ao', cap', hv, h1, h2, h3⟩ := h
  cases hv
  have hl : (xs.take i).length = i := by rw [List.length_take]; omega
  refine ⟨ao, cap, by rw [hl], by rw [hl]; omega, h2, fun h0 => ?_⟩
  obtain ⟨b, off, rfl, hlt, hc⟩ := h3 (by omega)
  refine ⟨b, off, rfl, hlt, fun j x hj => hc j x ?_⟩
  rw [List.getElem?_take] at hj
  split at hj
  · exact hj
  · cases hj
theorem LSl.drop {w : World} {ao : Option Addr} {n cap : Nat} {xs : List α} (h : LSl en k w (.slice ao n cap) xs) {i : Nat} (hi : i ≤ xs.length) : LSl en k w (.slice (if cap = i then ao else ao.map (·.add (i * k))) (n - i) (cap - i)) (xs.drop i) := by
  obtain ⟨ao', cap', hv, h1, h2, h3⟩ := h
  cases hv
  have hl : (xs.drop i).length = xs.length - i := List.length_drop
  refine ⟨_, cap - i, by rw [hl], by rw [hl]; omega, by omega, fun h0 => ?_⟩
  rw [hl] at h0
  obtain ⟨b, off, rfl, hlt, hc⟩ := h3 (by omega)
  refine ⟨b, off + i * k, ?_, hlt, fun j x hj q hq => ?_⟩
  · rw [if_neg (by omega)]
    simp [addr_add]
  · rw [List.getElem?_drop] at hj
    have := hc (i + j) x hj q hq
    rw [Nat.add_mul] at this
    rw [show off + i * k + j * k + q = off + (i * k + j * k) + q by omega]
    exact this
theorem exec_sliceLo2 {ρ : Operand → Value} {dst : Option Tmp} {ty : TypeId} {pos : String} {after : Array Edge} {g : Option (Nat × Bool)} {x y : Operand} {w : World} {ao ad : Option Addr} {len cap i ln cn : Nat} (hu : P.underlying t = some (.slice e)) (hs : (P.info? e).map (·.size) = some k) (hi : i ≤ len) (had : (if cap = i then ao else ao.map (·.add (i * k))) = ad) (hln : len - i = ln) (hcn : cap - i = cn) (hx : ρ x = .slice ao len cap) (hy : ρ y = .int .i64 i) :
    (execOp ρ ⟨dst, .slice t x (some y) none none, ty, pos, after, g⟩).run P w = .ok (.value (.slice ad ln cn)) w := by
  subst had hln hcn
  exact exec_sliceLo hu hs hi hx hy
theorem LSl.drop2 {w : World} {ao ad : Option Addr} {n cap ln cn : Nat} {xs : List α} (h : LSl en k w (.slice ao n cap) xs) {i : Nat} (hi : i ≤ xs.length) (had : (if cap = i then ao else ao.map (·.add (i * k))) = ad) (hln : n - i = ln) (hcn : cap - i = cn) : LSl en k w (.slice ad ln cn) (xs.drop i) := by
  subst had hln hcn
  exact h.drop hi
theorem wpList_appendN {ops : Array Oper} {rest : List Oper} {a : Act} {Q : Exit → Act → World → Prop} (E : ElT P t e k en) {B : Nat} {w : World} {v u : Value} {xs ys : List α} (h : LOut en k e B w v xs) (hu : LSl en k w u ys) (hsz : xs.length + ys.length ≤ 100000) {dst : Option Tmp} {ty : TypeId} {pos : String} {after : Array Edge} {s y : Operand}
    (hs : a.eval s = v) (hy : a.eval y = u)
    (hk : ∀ v' w', LOut en k e B w' v' (xs ++ ys) → w.grownBy w' v.ownBlock → (v'.ownBlock = v.ownBlock ∨ v'.ownBlock = some w.heap.size) → wpList P ops Q rest (a.put dst v') w') :
    wpList P ops Q ({ dst := dst, op := .call { callee := .builtin .append, args := #[s, y], argTypes := #[t, t] }, type := ty, pos := pos, after := after, guard := none } :: rest) a w := by
  obtain ⟨v', w', hr, ho, hg, hl⟩ := run_appendM E (ty := ty) h hu hsz
  refine wpList_exec rfl (v := v') (w' := w') ?_ (hk v' w' ho hg hl)
  simp only [execOp, resolve, invoke, builtin, Sem.run_bind, Sem.run_pure, Result.andThen_ok, List.map_toArray, List.map_cons, List.map_nil, hs, hy, hr]

theorem flatMap_set (hen : ∀ x, (en x).length = k) : ∀ (xs : List α) (i j : Nat) (x y : α) (u : Value), xs[i]? = some x → j < k → en y = (en x).set j u → (xs.set i y).flatMap en = (xs.flatMap en).set (i * k + j) u
  | [], i, j, x, y, u, h, _, _ => by simp at h
  | z :: zs, 0, j, x, y, u, h, hj, hy => by
    have : z = x := by simpa using h
    subst this
    rw [List.set_cons_zero, List.flatMap_cons, List.flatMap_cons, hy, Nat.zero_mul, Nat.zero_add, List.set_append_left _ _ (by rw [hen]; exact hj)]
  | z :: zs, i + 1, j, x, y, u, h, hj, hy => by
    have hx : zs[i]? = some x := by simpa using h
    have e1 : (i + 1) * k + j = (en z).length + (i * k + j) := by rw [hen, Nat.add_mul]; omega
    rw [List.set_cons_succ, List.flatMap_cons, List.flatMap_cons, flatMap_set hen zs i j x y u hx hj hy, e1, List.set_append_right _ _ (Nat.le_add_right _ _), Nat.add_sub_cancel_left]
/-- A store into an element's cell. -/
theorem LOut.set (hen : ∀ x, (en x).length = k) {B : Nat} {w : World} {b off n cap : Nat} {xs : List α} (h : LOut en k e B w (.slice (some ⟨b, off, none⟩) n cap) xs) {i j : Nat} {x y : α} {u : Value} (hi : xs[i]? = some x) (hj : j < k) (hy : en y = (en x).set j u) :
    LOut en k e B (w.setCell ⟨b, off + i * k + j, none⟩ u) (.slice (some ⟨b, off, none⟩) n cap) (xs.set i y) := by
  rcases h.own.2 with ⟨hv, _⟩ | ⟨g, cap', cur, hv, h0, hg, hn, hm, hs, ht⟩
  · cases hv
  · cases hv
    refine ⟨⟨by rw [len_flatMap hen], .inr ⟨b, cap, cur.setIfInBounds (0 + i * k + j) u, by rw [List.length_set], h0, heap_setCell_at hg, by rw [List.length_set]; exact hn, hm, by simpa using hs, ?_⟩⟩, h.lo, by simpa [World.setCell] using h.le⟩
    rw [flatMap_set hen xs i j x y u hi hj hy, ← ht, List.length_set, Nat.zero_add]
    simp [List.take_set]
theorem LOut.frozen {B : Nat} {w : World} {b off n cap : Nat} {xs : List α} (h : LOut en k e B w (.slice (some ⟨b, off, none⟩) n cap) xs) (o : Nat) : w.frozen? ⟨b, o, none⟩ = false := by
  rcases h.own.2 with ⟨hv, _⟩ | ⟨g, cap', cur, hv, h0, hg, _⟩
  · cases hv
  · cases hv
    exact free_of hg
end Go.Tn
