/- bytes.Clone, bytes.Equal; the writer's bytes. -/
import Derived.Test.YtipbaajdnnddgaaGreatMgVlj1
import Derived.Test.YtipbaajdnnddgaaGreatMgVlj7
import Derived.Test.YtipbaajdnnddgaaGreatRows
import Derived.Test.YtipbaajdnnddgaaGreatMgVlj3
import Derived.Test.YtipbaajdnnddgaaGreatMgVlj4
import Derived.Test.YtipbaajdnnddgaaGreatMgVlj6
import Derived.Test.YtipbaajdnnddgaaGreatMgVlj5
import Derived.BigQuiet
import Derived.WalkKit
import Derived.WalkSpells
import Derived.Deep.LoopGhost
import Derived.Deep.DeepCutAuto
import Derived.Deep.CutBlock
/- Rows of bits and the bytes that they make: no program. -/
namespace Go.Tn.Bt

/-- A number's last n bits, the highest first. -/
def bitsN (x : Nat) : Nat → List Bool
  | 0 => []
  | n + 1 => x.testBit n :: bitsN x n
/-- The number that bits are. -/
def natOf : List Bool → Nat
  | [] => 0
  | b :: r => b.toNat * 2 ^ r.length + natOf r
/-- The byte that begins with at most eight bits. -/
def byteOf (l : List Bool) : Nat := natOf l * 2 ^ (8 - l.length)
def packN : Nat → List Bool → List Nat
  | 0, _ => []
  | n + 1, l => byteOf (l.take 8) :: packN n (l.drop 8)
/-- The bytes that bits make, the last one filled with noughts. -/
def pack (l : List Bool) : List Nat := packN ((l.length + 7) / 8) l
/-- The bits of bytes. -/
def unpack (b : List Nat) : List Bool := b.flatMap (fun x => bitsN x 8)

theorem bitsN_len (x : Nat) : ∀ n, (bitsN x n).length = n
  | 0 => rfl
  | n + 1 => by simp [bitsN, bitsN_len x n]
theorem natOf_append : ∀ a b : List Bool, natOf (a ++ b) = natOf a * 2 ^ b.length + natOf b
  | [], b => by simp [natOf]
  | x :: a, b => by
    simp only [List.cons_append, natOf, natOf_append a b, List.length_append, Nat.pow_add, Nat.add_mul, Nat.mul_assoc, Nat.add_assoc]
theorem natOf_lt : ∀ a : List Bool, natOf a < 2 ^ a.length
  | [] => by simp [natOf]
  | x :: a => by
    have := natOf_lt a
    have hx : x.toNat ≤ 1 := by cases x <;> decide
    have : x.toNat * 2 ^ a.length ≤ 1 * 2 ^ a.length := Nat.mul_le_mul_right _ hx
    simp only [natOf, List.length_cons, Nat.pow_succ]
    omega
theorem natOf_bitsN (x : Nat) : ∀ n, natOf (bitsN x n) = x % 2 ^ n
  | 0 => by simp [natOf, bitsN, Nat.mod_one]
  | n + 1 => by
    simp only [bitsN, natOf, bitsN_len, natOf_bitsN x n]
    rw [Nat.mod_pow_succ, Nat.testBit_eq_decide_div_mod_eq]
    have h : x / 2 ^ n % 2 < 2 := Nat.mod_lt _ (by decide)
    have : (decide (x / 2 ^ n % 2 = 1)).toNat = x / 2 ^ n % 2 := by
      by_cases h1 : x / 2 ^ n % 2 = 1
      · simp [h1]
      · have : x / 2 ^ n % 2 = 0 := by omega
        simp [this]
    rw [this, Nat.mul_comm, Nat.add_comm]
theorem bitsN_add (x m : Nat) : ∀ k, bitsN x (k + m) = bitsN (x / 2 ^ m) k ++ bitsN x m
  | 0 => by simp [bitsN]
  | k + 1 => by
    rw [Nat.succ_add]
    simp only [bitsN, List.cons_append, bitsN_add x m k]
    rw [Nat.testBit_div_two_pow, Nat.add_comm k m]
theorem bitsN_congr {x y : Nat} : ∀ {n : Nat}, x % 2 ^ n = y % 2 ^ n → bitsN x n = bitsN y n
  | 0, _ => rfl
  | n + 1, h => by
    have h1 : x.testBit n = y.testBit n := by
      have e1 := Nat.testBit_mod_two_pow x (n + 1) n
      have e2 := Nat.testBit_mod_two_pow y (n + 1) n
      rw [h] at e1
      rw [e1] at e2
      simpa using e2
    have h2 : x % 2 ^ n = y % 2 ^ n := by
      have := congrArg (· % 2 ^ n) h
      simpa [Nat.mod_mod_of_dvd _ (Nat.pow_dvd_pow 2 (Nat.le_succ n))] using this
    simp only [bitsN, h1, bitsN_congr h2]
theorem bitsN_natOf : ∀ l : List Bool, bitsN (natOf l) l.length = l
  | [] => rfl
  | b :: r => by
    have hlt := natOf_lt r
    have h0 : (natOf (b :: r)) % 2 ^ r.length = natOf r % 2 ^ r.length := by simp only [natOf]; rw [Nat.add_comm, Nat.add_mul_mod_self_right]
    simp only [List.length_cons, bitsN]
    rw [bitsN_congr h0, bitsN_natOf r]
    congr 1
    simp only [natOf]
    rw [Nat.testBit_eq_decide_div_mod_eq, Nat.add_comm, Nat.add_mul_div_right _ _ (Nat.two_pow_pos _), Nat.div_eq_of_lt hlt]
    cases b <;> simp
theorem byteOf_lt {l : List Bool} (h : l.length ≤ 8) : byteOf l < 256 := by
  have h1 := natOf_lt l
  unfold byteOf
  calc natOf l * 2 ^ (8 - l.length) < 2 ^ l.length * 2 ^ (8 - l.length) := (Nat.mul_lt_mul_right (Nat.two_pow_pos _)).2 h1
    _ = 256 := by rw [← Nat.pow_add, show l.length + (8 - l.length) = 8 by omega]
theorem packN_len : ∀ n l, (packN n l).length = n
  | 0, _ => rfl
  | n + 1, l => by simp [packN, packN_len n]
theorem pack_len (l : List Bool) : (pack l).length = (l.length + 7) / 8 := packN_len _ _
theorem packN_lt : ∀ n l, ∀ x ∈ packN n l, x < 256
  | 0, _, _, h => by cases h
  | n + 1, l, x, h => by
    rcases List.mem_cons.1 h with rfl | h
    · exact byteOf_lt (by simp [List.length_take]; omega)
    · exact packN_lt n _ x h
theorem pack_lt (l : List Bool) : ∀ x ∈ pack l, x < 256 := packN_lt _ _
theorem packN_append : ∀ (q : Nat) (a b : List Bool) (m : Nat), a.length = 8 * q → packN (q + m) (a ++ b) = packN q a ++ packN m b
  | 0, a, b, m, h => by
    have : a = [] := List.eq_nil_of_length_eq_zero (by omega)
    subst this
    simp [packN]
  | q + 1, a, b, m, h => by
    rw [Nat.succ_add]
    simp only [packN, List.cons_append]
    rw [List.take_append_of_le_length (by omega), List.drop_append_of_le_length (by omega), packN_append q _ b m (by rw [List.length_drop]; omega)]
theorem pack_append {a : List Bool} (b : List Bool) {q : Nat} (h : a.length = 8 * q) : pack (a ++ b) = pack a ++ pack b := by
  unfold pack
  rw [List.length_append, h, show (8 * q + b.length + 7) / 8 = q + (b.length + 7) / 8 by omega, packN_append q a b _ h]
  rw [show (8 * q + 7) / 8 = q by omega]
theorem pack_nil : pack [] = [] := rfl
theorem pack_small {l : List Bool} (h0 : 0 < l.length) (h : l.length ≤ 8) : pack l = [byteOf l] := by
  unfold pack
  rw [show (l.length + 7) / 8 = 1 by omega]
  simp [packN, List.take_of_length_le h]
theorem byteOf_append {a b : List Bool} (h : a.length + b.length ≤ 8) : byteOf (a ++ b) = byteOf a ||| (natOf b * 2 ^ (8 - (a.length + b.length))) := by
  have e : byteOf a = (natOf a) <<< (8 - a.length) := by rw [Nat.shiftLeft_eq]; rfl
  have hb := natOf_lt b
  have hb' : natOf b * 2 ^ (8 - (a.length + b.length)) < 2 ^ (8 - a.length) := by
    calc natOf b * 2 ^ (8 - (a.length + b.length)) < 2 ^ b.length * 2 ^ (8 - (a.length + b.length)) := (Nat.mul_lt_mul_right (Nat.two_pow_pos _)).2 hb
      _ = 2 ^ (8 - a.length) := by rw [← Nat.pow_add, show b.length + (8 - (a.length + b.length)) = 8 - a.length by omega]
  rw [e, ← Nat.shiftLeft_add_eq_or_of_lt hb', Nat.shiftLeft_eq]
  unfold byteOf
  rw [natOf_append, List.length_append, Nat.add_mul, Nat.mul_assoc, ← Nat.pow_add, show b.length + (8 - (a.length + b.length)) = 8 - a.length by omega]
/-- How many bits of the last byte are used. -/
def used (l : List Bool) : Nat := if l.length % 8 = 0 then 8 else l.length % 8
theorem split8 (l : List Bool) : ∃ a t : List Bool, l = a ++ t ∧ a.length = 8 * (l.length / 8) ∧ t.length = l.length % 8 :=
  ⟨l.take (8 * (l.length / 8)), l.drop (8 * (l.length / 8)), (List.take_append_drop _ _).symm, by rw [List.length_take]; omega, by rw [List.length_drop]; omega⟩
/-- More bits in the last byte. -/
theorem pack_more {l p : List Bool} (h0 : 0 < l.length % 8) (hp : l.length % 8 + p.length ≤ 8) :
    pack (l ++ p) = (pack l).set ((pack l).length - 1) ((pack l).getLastD 0 ||| (natOf p * 2 ^ (8 - (l.length % 8 + p.length)))) := by
  obtain ⟨a, t, rfl, ha, ht⟩ := split8 l
  generalize (a ++ t).length / 8 = q at ha
  have htl : t.length < 8 := by rw [ht]; exact Nat.mod_lt _ (by decide)
  rw [← ht] at h0 hp ⊢
  rw [List.append_assoc, pack_append _ ha, pack_append _ ha, pack_small (l := t) h0 (by omega), pack_small (l := t ++ p) (by rw [List.length_append]; omega) (by rw [List.length_append]; omega), byteOf_append hp]
  simp
theorem pack_new {l p : List Bool} (h0 : l.length % 8 = 0) (h1 : 0 < p.length) (hp : p.length ≤ 8) : pack (l ++ p) = pack l ++ [natOf p * 2 ^ (8 - p.length)] := by
  rw [pack_append p (q := l.length / 8) (by omega), pack_small h1 hp]
  rfl
theorem unpack_append (a b : List Nat) : unpack (a ++ b) = unpack a ++ unpack b := by simp [unpack]
theorem unpack_len : ∀ b : List Nat, (unpack b).length = 8 * b.length
  | [] => rfl
  | x :: b => by
    show (bitsN x 8 ++ unpack b).length = _
    rw [List.length_append, bitsN_len, unpack_len b, List.length_cons]
    omega
theorem natOf_zeros : ∀ k, natOf (List.replicate k false) = 0
  | 0 => rfl
  | k + 1 => by simp [List.replicate_succ, natOf, natOf_zeros k]
theorem bitsN_byteOf {l : List Bool} (h : l.length ≤ 8) : bitsN (byteOf l) 8 = l ++ List.replicate (8 - l.length) false := by
  have e : byteOf l = natOf (l ++ List.replicate (8 - l.length) false) := by rw [natOf_append, natOf_zeros, List.length_replicate]; rfl
  have e2 : 8 = (l ++ List.replicate (8 - l.length) false).length := by rw [List.length_append, List.length_replicate]; omega
  rw [e]
  conv => lhs; arg 2; rw [e2]
  exact bitsN_natOf _
theorem unpack_packN : ∀ (n : Nat) (l : List Bool), l.length ≤ 8 * n → unpack (packN n l) = l ++ List.replicate (8 * n - l.length) false
  | 0, l, h => by
    have : l = [] := List.eq_nil_of_length_eq_zero (by omega)
    subst this
    rfl
  | n + 1, l, h => by
    have hl : (l.take 8).length ≤ 8 := by rw [List.length_take]; omega
    show bitsN (byteOf (l.take 8)) 8 ++ unpack (packN n (l.drop 8)) = _
    rw [bitsN_byteOf hl, unpack_packN n (l.drop 8) (by rw [List.length_drop]; omega), List.length_drop]
    by_cases h8 : 8 ≤ l.length
    · rw [List.length_take, Nat.min_eq_left h8]
      rw [show 8 - 8 = 0 by rfl, List.replicate_zero, List.append_nil, ← List.append_assoc, List.take_append_drop]
      rw [show 8 * n - (l.length - 8) = 8 * (n + 1) - l.length by omega]
    · rw [List.take_of_length_le (by omega), List.drop_eq_nil_of_le (by omega), List.nil_append, List.append_assoc, List.replicate_append_replicate]
      rw [show 8 - l.length + (8 * n - (l.length - 8)) = 8 * (n + 1) - l.length by omega]
theorem unpack_pack (l : List Bool) : unpack (pack l) = l ++ List.replicate (8 * ((l.length + 7) / 8) - l.length) false := unpack_packN _ _ (by omega)
theorem pack_unpack : ∀ b : List Nat, (∀ x ∈ b, x < 256) → pack (unpack b) = b
  | [], _ => rfl
  | x :: b, h => by
    show pack (bitsN x 8 ++ unpack b) = _
    rw [pack_append (q := 1) _ (by rw [bitsN_len]), pack_unpack b fun y hy => h y (List.mem_cons_of_mem _ hy), pack_small (by rw [bitsN_len]; decide) (by rw [bitsN_len]; decide)]
    unfold byteOf
    rw [natOf_bitsN, bitsN_len]
    have := h x List.mem_cons_self
    simp [Nat.mod_eq_of_lt this]
end Go.Tn.Bt

/- Bits that are read: no program. -/
namespace Go.Tn.Bt
open Go.Tn.Bits

theorem drop_bitsN (x : Nat) : ∀ (m n : Nat), (bitsN x n).drop m = bitsN x (n - m)
  | 0, n => by simp
  | m + 1, 0 => by simp [bitsN]
  | m + 1, n + 1 => by
    rw [show n + 1 - (m + 1) = n - m by omega, ← drop_bitsN x m n]
    rfl
theorem take_bitsN (x : Nat) {k n : Nat} (h : k ≤ n) : (bitsN x n).take k = bitsN (x / 2 ^ (n - k)) k := by
  have e := bitsN_add x (n - k) k
  rw [show k + (n - k) = n by omega] at e
  rw [e, List.take_left' (bitsN_len _ _)]
theorem unpack_drop : ∀ (q : Nat) (B : List Nat), (unpack B).drop (8 * q) = unpack (B.drop q)
  | 0, B => rfl
  | q + 1, [] => by simp [unpack]
  | q + 1, x :: B => by
    show (bitsN x 8 ++ unpack B).drop (8 * (q + 1)) = unpack (B.drop q)
    rw [List.drop_append, bitsN_len, List.drop_eq_nil_of_le (by rw [bitsN_len]; omega), List.nil_append, show 8 * (q + 1) - 8 = 8 * q by omega, unpack_drop q B]
/-- Bits within a byte. -/
theorem unpack_at {B : List Nat} {q t k c : Nat} (hc : B[q]? = some c) (h : t + k ≤ 8) : ((unpack B).drop (8 * q + t)).take k = bitsN (c / 2 ^ (8 - t - k)) k := by
  obtain ⟨hlt, rfl⟩ := List.getElem?_eq_some_iff.1 hc
  rw [← List.drop_drop, unpack_drop, List.drop_eq_getElem_cons hlt]
  show ((bitsN B[q] 8 ++ unpack (B.drop (q + 1))).drop t).take k = _
  rw [List.drop_append_of_le_length (by rw [bitsN_len]; omega), drop_bitsN, List.take_append_of_le_length (by rw [bitsN_len]; omega), take_bitsN _ (by omega)]
/-- Some bits more. -/
theorem take_more (L : List Bool) (a j k : Nat) : (L.drop a).take (j + k) = (L.drop a).take j ++ (L.drop (a + j)).take k := by
  rw [List.take_add, List.drop_drop]
theorem and7 (x : Nat) (hx : x < 9223372036854775808) : bits .and .i64 (x : Int) 7 = ((x % 8 : Nat) : Int) := by
  have h : x &&& 7 = x % 8 := Nat.and_two_pow_sub_one_eq_mod x 3
  have h7 : (7 : Int) = ((7 : Nat) : Int) := rfl
  unfold Go.bits
  rw [h7]
  simp only [BitVec.ofInt_natCast]
  rw [BitVec.toNat_and, BitVec.toNat_ofNat, BitVec.toNat_ofNat]
  rw [Nat.mod_eq_of_lt (show x < 2 ^ IntKind.i64.bits by show x < 2 ^ 64; omega), Nat.mod_eq_of_lt (show 7 < 2 ^ IntKind.i64.bits by decide), h, IntKind.wrap_i64]
  omega
theorem or64 (x y : Nat) (hx : x < 18446744073709551616) (hy : y < 18446744073709551616) : bits .or .u64 (x : Int) (y : Int) = ((x ||| y : Nat) : Int) := bits_or x y hx hy
/-- Bits behind a number's. -/
theorem or_add (x p k : Nat) (hp : p < 2 ^ k) : x * 2 ^ k ||| p = x * 2 ^ k + p := by
  rw [← Nat.shiftLeft_eq, Nat.shiftLeft_add_eq_or_of_lt hp]
end Go.Tn.Bt

/- The writer of bits, walked. -/
namespace Go.Proofs.YtipbaajdnnddgaaGreat
open Go.RowKit Go.Tn Go.Tn.Bt

/-- A byte's cell. -/
abbrev en8 : Nat → List Value := fun b => [.int .u8 b]
theorem el8 : ElT Tryz.prog 65 5 1 en8 := ⟨Tryz.underlying65, by kernel_rfl, by decide, fun _ => rfl, fun x u hu => by simp [en8] at hu; subst hu; rfl⟩

/-- A writer of bits. -/
structure WrAt (w : World) (a : Nat) (v : Value) (L : List Bool) : Prop where
  blk : w.heap[a]? = some (.cells #[.bool true, v, .int .i64 (used L), .int .i64 0] 155 (0, 0))
  bs : LOut en8 1 5 (a + 1) w v (pack L)
/-- What a writer's call leaves alone. -/
structure WMod (a : Nat) (v : Value) (w : World) (v' : Value) (w' : World) : Prop where
  mod : Mod (fun b => b = a ∨ v.ownBlock = some b) w w'
  own : v'.ownBlock = v.ownBlock ∨ ∃ r, v'.ownBlock = some r ∧ w.heap.size ≤ r
theorem WMod.refl (a : Nat) (v : Value) (w : World) : WMod a v w v w := ⟨Mod.refl _ _, .inl rfl⟩
theorem WMod.trans {a : Nat} {v v1 v2 : Value} {w w1 w2 : World} (h : WMod a v w v1 w1) (k : WMod a v1 w1 v2 w2) : WMod a v w v2 w2 := by
  refine ⟨h.mod.trans k.mod (fun _ h => h) fun x hx hS => ?_, ?_⟩
  · rcases hS with hS | hS
    · exact .inl hS
    · rcases h.own with e | ⟨r, e, hr⟩
      · exact .inr (e ▸ hS)
      · rw [e] at hS
        cases hS
        omega
  · rcases k.own with e | ⟨r, e, hr⟩
    · rcases h.own with e' | ⟨r', e', hr'⟩
      · exact .inl (e.trans e')
      · exact .inr ⟨r', e.trans e', hr'⟩
    · exact .inr ⟨r, e, Nat.le_trans h.mod.size hr⟩
theorem bNew_any (w : World) : Calls Tryz.prog 57 #[] w fun e w' => e = .returned (.pointer (some ⟨w.heap.size, 0, none⟩)) ∧ WrAt w' w.heap.size (.slice none 0 0) [] ∧ Below w.heap.size w w' := by
  go_enter Tryz.func57, Tryz.ntmps57
  go_wp2
  go_ret
  exact ⟨rfl, ⟨heap_alloc_at, LOut.nil (by simp)⟩, (Below.refl _ _).alloc (Nat.le_refl _) _⟩
/-- What is read while the last byte is written. -/
structure WS (a b m cap : Nat) (u c : Nat) (w : World) : Prop where
  c1 : w.cell? ⟨a, 1, none⟩ = some (.slice (some ⟨b, 0, none⟩) (m + 1 : Nat) cap)
  c2 : w.cell? ⟨a, 2, none⟩ = some (.int .i64 ((u : Nat) : Int))
  cb : w.cell? ⟨b, m, none⟩ = some (.int .u8 c)
theorem LOut.last {w : World} {B : Nat} {v : Value} {bs : List Nat} {m c : Nat} (h : LOut en8 1 5 B w v bs) (hm : bs.length = m + 1) (hc : bs[m]? = some c) : ∃ b cap, v = .slice (some ⟨b, 0, none⟩) (m + 1 : Nat) cap ∧ B ≤ b ∧ b < w.heap.size ∧ w.cell? ⟨b, m, none⟩ = some (.int .u8 c) ∧ ∀ o, w.frozen? ⟨b, o, none⟩ = false := by
  have hs := h.sl el8.len
  obtain ⟨b, off, cap, rfl, hlt, hl⟩ := hs.at_ hc
  have hw := h.whole
  obtain ⟨rfl, _⟩ := hw
  have h0 := hl 0 (by simp)
  refine ⟨b, cap, by rw [hm], h.lo b rfl, hlt, ?_, fun o => h.frozen o⟩
  simpa using h0
/-- Bits into the last byte. -/
theorem some_core (w : World) (a : Nat) (v : Value) (bs : List Nat) (u : Nat) (hblk : w.heap[a]? = some (.cells #[.bool true, v, .int .i64 u, .int .i64 0] 155 (0, 0))) (hbs : LOut en8 1 5 (a + 1) w v bs)
    (x n k m c : Nat) (hx : x < 2 ^ 64) (hn : n ≤ 64) (hmin : (if (8 : Int) - u < n then (8 : Int) - u else n) = k) (hk1 : 0 < k) (hkn : k ≤ n) (hu8 : u < 8) (hku : u + k ≤ 8) (hm : bs.length = m + 1) (hmx : m ≤ 100000) (hc : bs[m]? = some c) (hc8 : c < 256) :
    Calls Tryz.prog 77 #[.pointer (some ⟨a, 0, none⟩), .int .u64 x, .int .i64 n] w
    fun e w' => e = .returned (.int .i64 ((n - k : Nat) : Int)) ∧ w'.heap[a]? = some (.cells #[.bool true, v, .int .i64 (u + k : Nat), .int .i64 0] 155 (0, 0)) ∧ LOut en8 1 5 (a + 1) w' v (bs.set m (c ||| (x / 2 ^ (n - k) % 2 ^ k * 2 ^ (8 - (u + k))))) ∧ Below a w w' ∧ WMod a v w v w' := by
  obtain ⟨b, cap, rfl, hab, hbl, hcb, hfb⟩ := LOut.last hbs hm hc
  have hc0 : w.cell? ⟨a, 0, none⟩ = some (.bool true) := cell_of hblk rfl
  have hc1 : w.cell? ⟨a, 1, none⟩ = some (.slice (some ⟨b, 0, none⟩) (m + 1 : Nat) cap) := cell_of hblk rfl
  have hc2 : w.cell? ⟨a, 2, none⟩ = some (.int .i64 u) := cell_of hblk rfl
  have hf : ∀ o, w.frozen? ⟨a, o, none⟩ = false := fun o => free_of hblk
  have hne : ((u : Int) == 8) = false := by simp; omega
  have hkn' : (k : Int) ≤ n := by omega
  have hk0' : (0 : Int) ≤ k := by omega
  have hn' : (n : Int) ≤ 64 := by omega
  have hku' : (u : Int) + k ≤ 8 := by omega
  have hw1 : IntKind.i64.wrap ((n : Int) - k) = ((n - k : Nat) : Int) := by rw [IntWalk.i64_in _ (by omega)]; omega
  have hwm : IntKind.i64.wrap (m : Int) = m := IntWalk.i64_in _ (by omega)
  have hm0 : (0 : Int) ≤ m := by omega
  have hm1 : (m : Int) < (m : Int) + 1 := by omega
  have hwu : IntKind.i64.wrap (8 - ((u : Int) + k)) = ((8 - (u + k) : Nat) : Int) := by rw [IntWalk.i64_in _ (by omega)]; omega
  have hE : bits .and .u8 (IntKind.u8.wrap ((x : Int) / 2 ^ min (n - k) 64)) (IntKind.u8.wrap (IntKind.u8.wrap ((2 : Int) ^ k) - 1)) = ((x / 2 ^ (n - k) % 2 ^ k : Nat) : Int) := by
    have h1 : 1 ≤ 2 ^ k := Nat.one_le_two_pow
    have h2 : 2 ^ k ≤ 2 ^ 8 := Nat.pow_le_pow_right (by decide) (by omega)
    have e1 : IntKind.u8.wrap ((x : Int) / 2 ^ min (n - k) 64) = ((x / 2 ^ (n - k) % 256 : Nat) : Int) := by
      rw [Nat.min_eq_left (by omega), ← wrap8]
      norm_cast
    have e2 : IntKind.u8.wrap (IntKind.u8.wrap ((2 : Int) ^ k) - 1) = ((2 ^ k - 1 : Nat) : Int) := by
      have e : ((2 : Int) ^ k) = ((2 ^ k : Nat) : Int) := by norm_cast
      rw [e, IntKind.wrap_u8, IntKind.wrap_u8]
      omega
    rw [e1, e2, and8 _ _ (Nat.mod_lt _ (by decide)) (by omega), mask8 _ k (by omega)]
  have hpl : x / 2 ^ (n - k) % 2 ^ k < 2 ^ k := Nat.mod_lt _ (Nat.two_pow_pos _)
  have hE2 : bits .or .u8 (c : Int) (IntKind.u8.wrap (((x / 2 ^ (n - k) % 2 ^ k : Nat) : Int) * 2 ^ (8 - (u + k)))) = ((c ||| (x / 2 ^ (n - k) % 2 ^ k * 2 ^ (8 - (u + k))) : Nat) : Int) := by
    have hlt : x / 2 ^ (n - k) % 2 ^ k * 2 ^ (8 - (u + k)) < 2 ^ 8 := by
      calc x / 2 ^ (n - k) % 2 ^ k * 2 ^ (8 - (u + k)) < 2 ^ k * 2 ^ (8 - (u + k)) := (Nat.mul_lt_mul_right (Nat.two_pow_pos _)).2 hpl
        _ = 2 ^ (8 - u) := by rw [← Nat.pow_add, show k + (8 - (u + k)) = 8 - u by omega]
        _ ≤ 2 ^ 8 := Nat.pow_le_pow_right (by decide) (by omega)
    have e : (((x / 2 ^ (n - k) % 2 ^ k : Nat) : Int) * 2 ^ (8 - (u + k))) = ((x / 2 ^ (n - k) % 2 ^ k * 2 ^ (8 - (u + k)) : Nat) : Int) := by norm_cast
    rw [e, wrap8, Nat.mod_eq_of_lt hlt, or8 _ _ hc8 hlt]
  generalize x / 2 ^ (n - k) % 2 ^ k = r at *
  generalize n - k = d at *
  go_enter Tryz.func77, Tryz.ntmps77
  go_upto_region 5 with fail
  refine wp_region_x (fun _ => True) [(0, 1), (1, 1), (2, 1), (3, 1), (4, 1), (5, 1), (6, 1), (7, 1), (8, 1), (9, 1), (10, 1)] (by kernel_rfl) (by kernel_rfl) (by intro d v c a w h; cases d <;> exact h) ?_
  iterate 11 (refine x_take rfl (fun K hK => ?_); go_simp; refine hK _ ?_; clear hK K)
  refine x_nil ?_
  go_upto_region 7 with fail
  have hM : Mod (fun x => x = a) w (w.setCell ⟨a, 2, none⟩ (.int .i64 ((u : Int) + k))).drew.drew := ((Mod.refl (fun x => x = a) w).setCell ⟨a, 2, none⟩ (.int .i64 ((u : Int) + k)) fun _ => rfl).drew.drew
  have hba : ¬ (fun x => x = a) b := fun e => by
    have e' : b = a := e
    omega
  have hS : WS a b m cap (u + k) c (w.setCell ⟨a, 2, none⟩ (.int .i64 ((u : Int) + k))).drew.drew :=
    ⟨by have := cell_of (o := 1) (heap_setCell_at (o := 2) (v := .int .i64 ((u : Int) + k)) hblk) rfl; exact this, by have := cell_of (o := 2) (heap_setCell_at (o := 2) (v := .int .i64 ((u : Int) + k)) hblk) rfl; exact this, cell_mod hcb hM hba⟩
  refine wp_region_x (WS a b m cap (u + k) c) [(0, 1), (1, 1), (2, 1), (3, 0), (4, 1), (5, 1), (6, 1), (7, 0), (8, 1), (9, 1), (10, 1), (11, 0), (12, 1), (13, 1), (14, 1), (15, 1), (16, 0), (17, 1), (18, 1), (19, 1), (20, 1), (21, 3)] (by kernel_rfl) (by kernel_rfl) (by intro d v c a w h; cases d <;> exact h) ?_
  iterate 3 (refine x_take rfl (fun K hK => ?_); go_simp; refine hK _ ?_; clear hK K)
  refine x_read rfl hS (fun w' h => exec_load1 ⟨⟨_, Tryz.underlying65, rfl⟩⟩ rfl h.c1) ?_
  iterate 3 (refine x_take rfl (fun K hK => ?_); go_simp; refine hK _ ?_; clear hK K)
  refine x_read rfl hS (fun w' h => exec_load1 ⟨⟨_, Tryz.underlying65, rfl⟩⟩ rfl h.c1) ?_
  iterate 3 (refine x_take rfl (fun K hK => ?_); go_simp; refine hK _ ?_; clear hK K)
  refine x_read rfl hS (fun w' h => exec_load1 ⟨⟨_, Tryz.underlying5, rfl⟩⟩ rfl h.cb) ?_
  iterate 4 (refine x_take rfl (fun K hK => ?_); go_simp; refine hK _ ?_; clear hK K)
  refine x_read rfl hS (fun w' h => exec_load1 ⟨⟨_, Tryz.underlying3, rfl⟩⟩ rfl h.c2) ?_
  iterate 4 (refine x_take rfl (fun K hK => ?_); go_simp; refine hK _ ?_; clear hK K)
  have hf2 := (frozen_mod (o := m) hM hbl hba).trans (hfb m)
  have hcb2 := hS.cb
  refine x_exec' rfl (fun K hK => ?_)
  go_simp
  refine hK _ _ ?_
  clear hK K
  refine x_nil ?_
  go_wp2
  go_ret
  have hL := (hbs.kept (w' := w.setCell ⟨a, 2, none⟩ (.int .i64 ((u : Int) + k))) (by simp [World.setCell]) fun r hr => by
    cases hr
    exact heap_setCell_ne (show b ≠ a by omega)).set el8.len (i := m) (j := 0) (x := c) (y := c ||| r * 2 ^ (8 - (u + k))) (u := .int .u8 ((c ||| r * 2 ^ (8 - (u + k)) : Nat) : Int)) hc (by decide) rfl
  rw [show 0 + m * 1 + 0 = m by omega] at hL
  refine ⟨rfl, ?_, hL.kept (Nat.le_refl _) fun _ _ => rfl, ?_, ⟨?_, .inl rfl⟩⟩
  · exact heap_setCell_of (heap_setCell_at (o := 2) hblk) (show a ≠ b by omega)
  rotate_left
  · exact ((((Mod.refl _ w).setCell ⟨a, 2, none⟩ _ fun _ => .inl rfl).setCell ⟨b, m, none⟩ _ fun _ => .inr rfl).drew).drew
  · exact (((Below.refl _ w).setCell (p := ⟨a, 2, none⟩) (Nat.le_refl _) _).setCell (p := ⟨b, m, none⟩) (show a ≤ b by omega) _).drew.drew
end Go.Proofs.YtipbaajdnnddgaaGreat

/- The writer of bits: bits into a new byte. Printed by bts/genbx.py. -/
namespace Go.Proofs.YtipbaajdnnddgaaGreat
open Go.RowKit Go.Tn Go.Tn.Bt

set_option maxRecDepth 20000 in
/-- Bits into a new byte. -/
theorem some_new (W : World) (a : Nat) (v : Value) (bs : List Nat) (hblk0 : W.heap[a]? = some (.cells #[.bool true, v, .int .i64 8, .int .i64 0] 155 (0, 0))) (hbs0 : LOut en8 1 5 (a + 1) W v bs)
    (x n k m : Nat) (hx : x < 2 ^ 64) (hn : n ≤ 64) (hmin : (if (8 : Int) < n then (8 : Int) else n) = k) (hk1 : 0 < k) (hkn : k ≤ n) (hk8 : k ≤ 8) (hmb : bs.length = m) (hmx : m ≤ 60000) :
    Calls Tryz.prog 77 #[.pointer (some ⟨a, 0, none⟩), .int .u64 x, .int .i64 n] W
    fun e w' => e = .returned (.int .i64 ((n - k : Nat) : Int)) ∧ ∃ v', w'.heap[a]? = some (.cells #[.bool true, v', .int .i64 (k : Nat), .int .i64 0] 155 (0, 0)) ∧ LOut en8 1 5 (a + 1) w' v' (bs ++ [x / 2 ^ (n - k) % 2 ^ k * 2 ^ (8 - k)]) ∧ Below a W w' ∧ WMod a v W v' w' := by
  have hc0 : W.cell? ⟨a, 0, none⟩ = some (.bool true) := cell_of hblk0 rfl
  have hc1 : W.cell? ⟨a, 1, none⟩ = some v := cell_of hblk0 rfl
  have hc2 : W.cell? ⟨a, 2, none⟩ = some (.int .i64 8) := cell_of hblk0 rfl
  have hf : ∀ o, W.frozen? ⟨a, o, none⟩ = false := fun o => free_of hblk0
  have hkn' : (k : Int) ≤ n := by omega
  have hk0' : (0 : Int) ≤ k := by omega
  have hn' : (n : Int) ≤ 64 := by omega
  have hk8' : (k : Int) ≤ 8 := by omega
  have hw1 : IntKind.i64.wrap ((n : Int) - k) = ((n - k : Nat) : Int) := by rw [IntWalk.i64_in _ (by omega)]; omega
  have hwm : IntKind.i64.wrap (m : Int) = m := IntWalk.i64_in _ (by omega)
  have hm0 : (0 : Int) ≤ m := by omega
  have hm1 : (m : Int) < (m : Int) + 1 := by omega
  have hwu : IntKind.i64.wrap (8 - (k : Int)) = ((8 - k : Nat) : Int) := by rw [IntWalk.i64_in _ (by omega)]; omega
  have hE : bits .and .u8 (IntKind.u8.wrap ((x : Int) / 2 ^ min (n - k) 64)) (IntKind.u8.wrap (IntKind.u8.wrap ((2 : Int) ^ k) - 1)) = ((x / 2 ^ (n - k) % 2 ^ k : Nat) : Int) := by
    have h1 : 1 ≤ 2 ^ k := Nat.one_le_two_pow
    have h2 : 2 ^ k ≤ 2 ^ 8 := Nat.pow_le_pow_right (by decide) (by omega)
    have e1 : IntKind.u8.wrap ((x : Int) / 2 ^ min (n - k) 64) = ((x / 2 ^ (n - k) % 256 : Nat) : Int) := by
      rw [Nat.min_eq_left (by omega), ← wrap8]
      norm_cast
    have e2 : IntKind.u8.wrap (IntKind.u8.wrap ((2 : Int) ^ k) - 1) = ((2 ^ k - 1 : Nat) : Int) := by
      have e : ((2 : Int) ^ k) = ((2 ^ k : Nat) : Int) := by norm_cast
      rw [e, IntKind.wrap_u8, IntKind.wrap_u8]
      omega
    rw [e1, e2, and8 _ _ (Nat.mod_lt _ (by decide)) (by omega), mask8 _ k (by omega)]
  have hpl : x / 2 ^ (n - k) % 2 ^ k < 2 ^ k := Nat.mod_lt _ (Nat.two_pow_pos _)
  have hE2 : bits .or .u8 (0 : Int) (IntKind.u8.wrap (((x / 2 ^ (n - k) % 2 ^ k : Nat) : Int) * 2 ^ (8 - k))) = ((x / 2 ^ (n - k) % 2 ^ k * 2 ^ (8 - k) : Nat) : Int) := by
    have hlt : x / 2 ^ (n - k) % 2 ^ k * 2 ^ (8 - k) < 2 ^ 8 := by
      calc x / 2 ^ (n - k) % 2 ^ k * 2 ^ (8 - k) < 2 ^ k * 2 ^ (8 - k) := (Nat.mul_lt_mul_right (Nat.two_pow_pos _)).2 hpl
        _ = 2 ^ 8 := by rw [← Nat.pow_add, show k + (8 - k) = 8 by omega]
    have e : (((x / 2 ^ (n - k) % 2 ^ k : Nat) : Int) * 2 ^ (8 - k)) = ((x / 2 ^ (n - k) % 2 ^ k * 2 ^ (8 - k) : Nat) : Int) := by norm_cast
    rw [e, wrap8, Nat.mod_eq_of_lt hlt]
    have := or8 0 _ (by decide) hlt
    rw [Nat.zero_or] at this
    exact this
  generalize x / 2 ^ (n - k) % 2 ^ k = r at *
  generalize n - k = d at *
  have hlen : bs.length ≤ 1000000000 := by omega
  have hl2 : (bs ++ [0]).length = m + 1 := by simp; omega
  have hg2 : (bs ++ [0])[m]? = some 0 := by rw [← hmb]; simp
  go_enter Tryz.func77, Tryz.ntmps77
  go_upto_region 4 with (first
    | ((with_reducible refine wpList_append1Y el8 hbs0 0 hlen ?_ ?_ ?_ ?_); rfl; rfl; rfl; (intro v2 w2 hO2 hm2 hv2; have hb2 := hm2.below (B := a + 1) hbs0.le (fun x hx e => by have := hbs0.lo x e; omega); obtain ⟨b, cap, rfl, hab, hbl, hcb, hfb⟩ := LOut.last hO2 hl2 hg2; have hblk2 := (hb2.block a (Nat.lt_succ_self a)).trans hblk0; have hd1 : w2.cell? ⟨a, 1, none⟩ = some v := cell_of hblk2 rfl; have hd2 : w2.cell? ⟨a, 2, none⟩ = some (.int .i64 8) := cell_of hblk2 rfl; have hff : ∀ o, w2.frozen? ⟨a, o, none⟩ = false := fun o => free_of hblk2; have HM2 := Lib.hid hm2; have HV2 := Lib.hid hv2; clear hm2 hv2); go_frame)
    | fail)
  have hblk : ((w2.setCell ⟨a, 1, none⟩ (.slice (some ⟨b, 0, none⟩) (m + 1 : Nat) cap)).setCell ⟨a, 2, none⟩ (.int .i64 0)).heap[a]? = some (.cells #[.bool true, .slice (some ⟨b, 0, none⟩) (m + 1 : Nat) cap, .int .i64 0, .int .i64 0] 155 (0, 0)) := heap_setCell_at (heap_setCell_at hblk2)
  have hMm : Mod (fun x => x = a) w2 ((w2.setCell ⟨a, 1, none⟩ (.slice (some ⟨b, 0, none⟩) (m + 1 : Nat) cap)).setCell ⟨a, 2, none⟩ (.int .i64 0)) := ((Mod.refl (fun x => x = a) w2).setCell ⟨a, 1, none⟩ _ fun _ => rfl).setCell ⟨a, 2, none⟩ _ fun _ => rfl
  have hW : Below a W ((w2.setCell ⟨a, 1, none⟩ (.slice (some ⟨b, 0, none⟩) (m + 1 : Nat) cap)).setCell ⟨a, 2, none⟩ (.int .i64 0)) := ((hb2.mono (Nat.le_succ a)).setCell (p := ⟨a, 1, none⟩) (Nat.le_refl _) _).setCell (p := ⟨a, 2, none⟩) (Nat.le_refl _) _
  have HWM : Hid (Mod (fun x => x = a ∨ v.ownBlock = some x) W ((w2.setCell ⟨a, 1, none⟩ (.slice (some ⟨b, 0, none⟩) (m + 1 : Nat) cap)).setCell ⟨a, 2, none⟩ (.int .i64 0))) := Lib.hid (((HM2.out.mono fun x _ h => .inr h).setCell ⟨a, 1, none⟩ _ fun _ => .inl rfl).setCell ⟨a, 2, none⟩ _ fun _ => .inl rfl)
  have hba0 : ¬ (fun x => x = a) b := fun e => by
    have e' : b = a := e
    omega
  have hbs := hO2.kept (w' := ((w2.setCell ⟨a, 1, none⟩ (.slice (some ⟨b, 0, none⟩) (m + 1 : Nat) cap)).setCell ⟨a, 2, none⟩ (.int .i64 0))) hMm.size fun r hr => by
    cases hr
    exact hMm.block b hbl hba0
  have hcb := cell_mod hcb hMm hba0
  have hfb : ∀ o, ((w2.setCell ⟨a, 1, none⟩ (.slice (some ⟨b, 0, none⟩) (m + 1 : Nat) cap)).setCell ⟨a, 2, none⟩ (.int .i64 0)).frozen? ⟨b, o, none⟩ = false := fun o => (frozen_mod hMm hbl hba0).trans (hfb o)
  have hbl := Nat.lt_of_lt_of_le hbl hMm.size
  clear hMm hba0 hO2 hb2 hc0 hc1 hc2 hf hd1 hd2 hff hblk2 hblk0 hbs0
  generalize (w2.setCell ⟨a, 1, none⟩ (.slice (some ⟨b, 0, none⟩) (m + 1 : Nat) cap)).setCell ⟨a, 2, none⟩ (.int .i64 0) = w at *
  have hc := hg2
  have hc0 : w.cell? ⟨a, 0, none⟩ = some (.bool true) := cell_of hblk rfl
  have hc1 : w.cell? ⟨a, 1, none⟩ = some (.slice (some ⟨b, 0, none⟩) (m + 1 : Nat) cap) := cell_of hblk rfl
  have hc2 : w.cell? ⟨a, 2, none⟩ = some (.int .i64 0) := cell_of hblk rfl
  have hf : ∀ o, w.frozen? ⟨a, o, none⟩ = false := fun o => free_of hblk
  go_upto_region 5 with fail
  refine wp_region_x (fun _ => True) [(0, 1), (1, 1), (2, 1), (3, 1), (4, 1), (5, 1), (6, 1), (7, 1), (8, 1), (9, 1), (10, 1)] (by kernel_rfl) (by kernel_rfl) (by intro d v c a w h; cases d <;> exact h) ?_
  iterate 11 (refine x_take rfl (fun K hK => ?_); go_simp; refine hK _ ?_; clear hK K)
  refine x_nil ?_
  go_upto_region 7 with fail
  have hM : Mod (fun x => x = a) w (w.setCell ⟨a, 2, none⟩ (.int .i64 (k : Int))).drew.drew := ((Mod.refl (fun x => x = a) w).setCell ⟨a, 2, none⟩ (.int .i64 (k : Int)) fun _ => rfl).drew.drew
  have hba : ¬ (fun x => x = a) b := fun e => by
    have e' : b = a := e
    omega
  have hS : WS a b m cap k 0 (w.setCell ⟨a, 2, none⟩ (.int .i64 (k : Int))).drew.drew :=
    ⟨by have := cell_of (o := 1) (heap_setCell_at (o := 2) (v := .int .i64 (k : Int)) hblk) rfl; exact this, by have := cell_of (o := 2) (heap_setCell_at (o := 2) (v := .int .i64 (k : Int)) hblk) rfl; exact this, cell_mod hcb hM hba⟩
  refine wp_region_x (WS a b m cap k 0) [(0, 1), (1, 1), (2, 1), (3, 0), (4, 1), (5, 1), (6, 1), (7, 0), (8, 1), (9, 1), (10, 1), (11, 0), (12, 1), (13, 1), (14, 1), (15, 1), (16, 0), (17, 1), (18, 1), (19, 1), (20, 1), (21, 3)] (by kernel_rfl) (by kernel_rfl) (by intro d v c a w h; cases d <;> exact h) ?_
  iterate 3 (refine x_take rfl (fun K hK => ?_); go_simp; refine hK _ ?_; clear hK K)
  refine x_read rfl hS (fun w' h => exec_load1 ⟨⟨_, Tryz.underlying65, rfl⟩⟩ rfl h.c1) ?_
  iterate 3 (refine x_take rfl (fun K hK => ?_); go_simp; refine hK _ ?_; clear hK K)
  refine x_read rfl hS (fun w' h => exec_load1 ⟨⟨_, Tryz.underlying65, rfl⟩⟩ rfl h.c1) ?_
  iterate 3 (refine x_take rfl (fun K hK => ?_); go_simp; refine hK _ ?_; clear hK K)
  refine x_read rfl hS (fun w' h => exec_load1 ⟨⟨_, Tryz.underlying5, rfl⟩⟩ rfl h.cb) ?_
  iterate 4 (refine x_take rfl (fun K hK => ?_); go_simp; refine hK _ ?_; clear hK K)
  refine x_read rfl hS (fun w' h => exec_load1 ⟨⟨_, Tryz.underlying3, rfl⟩⟩ rfl h.c2) ?_
  iterate 4 (refine x_take rfl (fun K hK => ?_); go_simp; refine hK _ ?_; clear hK K)
  have hf2 := (frozen_mod (o := m) hM hbl hba).trans (hfb m)
  have hcb2 := hS.cb
  refine x_exec' rfl (fun K hK => ?_)
  go_simp
  refine hK _ _ ?_
  clear hK K
  refine x_nil ?_
  go_wp2
  go_ret
  have hL := (hbs.kept (w' := w.setCell ⟨a, 2, none⟩ (.int .i64 (k : Int))) (by simp [World.setCell]) fun r hr => by
    cases hr
    exact heap_setCell_ne (show b ≠ a by omega)).set el8.len (i := m) (j := 0) (x := 0) (y := r * 2 ^ (8 - k)) (u := .int .u8 ((r * 2 ^ (8 - k) : Nat) : Int)) hc (by decide) rfl
  rw [show 0 + m * 1 + 0 = m by omega] at hL
  have hset : (bs ++ [0]).set m (r * 2 ^ (8 - k)) = bs ++ [r * 2 ^ (8 - k)] := by rw [← hmb]; simp
  rw [hset] at hL
  refine ⟨rfl, _, ?_, hL.kept (Nat.le_refl _) fun _ _ => rfl, hW.trans ?_, ⟨?_, HV2.out⟩⟩
  · exact heap_setCell_of (heap_setCell_at (o := 2) hblk) (show a ≠ b by omega)
  rotate_left
  · refine ((HWM.out.setCell ⟨a, 2, none⟩ _ fun _ => .inl rfl).setCell ⟨b, m, none⟩ _ fun hb => ?_).drew.drew
    rcases HV2.out with e | ⟨r', e, hr'⟩
    · exact .inr e.symm
    · cases e
      exact absurd hb (Nat.not_lt.2 hr')
  · exact (((Below.refl _ w).setCell (p := ⟨a, 2, none⟩) (Nat.le_refl _) _).setCell (p := ⟨b, m, none⟩) (show a ≤ b by omega) _).drew.drew
end Go.Proofs.YtipbaajdnnddgaaGreat

/- The writer of bits: a number is put. -/
namespace Go.Proofs.YtipbaajdnnddgaaGreat
open Go.RowKit Go.Tn Go.Tn.Bt

theorem some_bits (w : World) (a : Nat) (v : Value) (L : List Bool) (h : WrAt w a v L) (hL : L.length ≤ 400000) (x n k : Nat) (hx : x < 2 ^ 64) (hn : n ≤ 64) (h0 : 0 < n) (hk : min n (8 - L.length % 8) = k) :
    Calls Tryz.prog 77 #[.pointer (some ⟨a, 0, none⟩), .int .u64 x, .int .i64 n] w
    fun e w' => e = .returned (.int .i64 ((n - k : Nat) : Int)) ∧ ∃ v', WrAt w' a v' (L ++ bitsN (x / 2 ^ (n - k)) k) ∧ Below a w w' ∧ WMod a v w v' w' := by
  have hnat : natOf (bitsN (x / 2 ^ (n - k)) k) = x / 2 ^ (n - k) % 2 ^ k := natOf_bitsN _ _
  have hlen : (bitsN (x / 2 ^ (n - k)) k).length = k := bitsN_len _ _
  by_cases hu : L.length % 8 = 0
  · have huL : used L = 8 := by unfold used; rw [if_pos hu]
    have hmin : (if (8 : Int) < n then (8 : Int) else n) = k := by split <;> omega
    have hblk := h.blk
    rw [huL] at hblk
    refine (some_new w a v (pack L) hblk h.bs x n k (pack L).length hx hn hmin (by omega) (by omega) (by omega) rfl (by rw [pack_len]; omega)).mono ?_
    rintro e w' ⟨he, v', hb', ho', hbe⟩
    refine ⟨he, v', ⟨?_, ?_⟩, hbe⟩
    · rw [hb']
      have : used (L ++ bitsN (x / 2 ^ (n - k)) k) = k := by
        unfold used
        rw [List.length_append, hlen]
        split <;> omega
      rw [this]
    · rw [pack_new hu (by rw [hlen]; omega) (by rw [hlen]; omega), hnat, hlen]
      exact ho'
  · have huL : used L = L.length % 8 := by unfold used; rw [if_neg hu]
    have hmin : (if (8 : Int) - (L.length % 8 : Nat) < n then (8 : Int) - (L.length % 8 : Nat) else n) = k := by split <;> omega
    have hblk := h.blk
    rw [huL] at hblk
    have hpl := pack_len L
    obtain ⟨m, hm⟩ : ∃ m, (pack L).length = m + 1 := ⟨(pack L).length - 1, by omega⟩
    have hlast : (pack L)[m]? = some ((pack L).getLastD 0) := by
      rw [List.getLastD_eq_getLast?, List.getLast?_eq_getElem?, hm]
      simp
      rw [List.getElem?_eq_getElem (by omega)]
      simp
    have hc8 : (pack L).getLastD 0 < 256 := pack_lt L _ (List.mem_of_getElem? hlast)
    refine (some_core w a v (pack L) (L.length % 8) hblk h.bs x n k m ((pack L).getLastD 0) hx hn hmin (by omega) (by omega) (by omega) (by omega) hm (by omega) hlast hc8).mono ?_
    rintro e w' ⟨he, hb', ho', hbe⟩
    refine ⟨he, v, ⟨?_, ?_⟩, hbe⟩
    · rw [hb']
      have : used (L ++ bitsN (x / 2 ^ (n - k)) k) = L.length % 8 + k := by
        unfold used
        rw [List.length_append, hlen]
        split <;> omega
      rw [this]
    · rw [pack_more (by omega) (by rw [hlen]; omega), hnat, hlen, hm]
      exact ho'
theorem bits_step (x j k n : Nat) (hk : k ≤ j) (hj : j ≤ n) : bitsN (x / 2 ^ j) (n - j) ++ bitsN (x / 2 ^ (j - k)) k = bitsN (x / 2 ^ (j - k)) (n - (j - k)) := by
  rw [show n - (j - k) = n - j + k by omega, bitsN_add, Nat.div_div_eq_div_mul, ← Nat.pow_add, show j - k + k = j by omega]
theorem put_bits (w : World) (a : Nat) (v : Value) (L : List Bool) (h : WrAt w a v L) (x n : Nat) (hL : L.length + n ≤ 400000) (hn : n ≤ 64) (hx : x < 2 ^ n) :
    Calls Tryz.prog 58 #[.pointer (some ⟨a, 0, none⟩), .int .u64 x, .int .i64 n] w
    fun e w' => e = .returned (.pointer (some ⟨a, 0, none⟩)) ∧ ∃ v', WrAt w' a v' (L ++ bitsN x n) ∧ Below a w w' ∧ WMod a v w v' w' := by
  have hx64 : x < 2 ^ 64 := Nat.lt_of_lt_of_le hx (Nat.pow_le_pow_right (by decide) hn)
  have hc0 : w.cell? ⟨a, 0, none⟩ = some (.bool true) := cell_of h.blk rfl
  have hc3 : w.cell? ⟨a, 3, none⟩ = some (.int .i64 0) := cell_of h.blk rfl
  have hn' : (n : Int) ≤ 64 := by omega
  have hn0 : (0 : Int) ≤ n := by omega
  have hdn : decide ((n : Int) < 0) = false := by simp
  have hdm : decide (64 < (n : Int)) = false := by simp; omega
  have hdiv : (x : Int) / 2 ^ n = 0 := by
    have : x / 2 ^ n = 0 := Nat.div_eq_of_lt hx
    have e : (x : Int) / 2 ^ n = ((x / 2 ^ n : Nat) : Int) := by norm_cast
    rw [e, this]
    rfl
  have HX := Lib.hid hx64
  have H := Lib.hid h
  clear h hx hx64
  have h64 : (n : Int) < 64 ∨ (64 : Int) ≤ n := by omega
  rcases h64 with h64 | h64
  all_goals
    go_enter Tryz.func58, Tryz.ntmps58
    go_wp2_with fail
    clear hdiv hc0 hc3
    go_loopw [2] (fun jv wi => ∃ j : Nat, j ≤ n ∧ jv = .int .i64 j ∧ ∃ v', WrAt wi a v' (L ++ bitsN (x / 2 ^ j) (n - j)) ∧ Below a w wi ∧ WMod a v w v' wi) (fun jv _ => (intOf jv).toNat)
    case atStart =>
      refine ⟨n, Nat.le_refl _, rfl, v, ?_, Below.refl _ _, WMod.refl _ _ _⟩
      rw [Nat.sub_self]
      simpa [bitsN] using H.out
    case round =>
      obtain ⟨j, hj, rfl, v', hw', hb', hmm⟩ := hrel
      have HMM := Lib.hid hmm
      clear hmm
      by_cases hj0 : 0 < j
      · have hj0' : (0 : Int) < (j : Int) := by omega
        have hlen : (L ++ bitsN (x / 2 ^ j) (n - j)).length = L.length + (n - j) := by rw [List.length_append, bitsN_len]
        obtain ⟨k, hk⟩ : ∃ k, min j (8 - (L ++ bitsN (x / 2 ^ j) (n - j)).length % 8) = k := ⟨_, rfl⟩
        have hs := some_bits wr a v' _ hw' (by omega) x j k HX.out (by omega) hj0 hk
        rw [List.append_assoc, bits_step x j k n (by omega) hj] at hs
        have HB := Lib.hid hb'
        clear hw' hlen hb'
        go_wp2_with fail
        refine hs.mono ?_
        rintro e w5 ⟨rfl, v5, hw5, hb5, hm5⟩
        have HM5 := Lib.hid (HMM.out.trans hm5)
        clear hm5
        have HW5 := Lib.hid hw5
        have HB5 := Lib.hid (HB.out.trans hb5)
        clear hw5 hb5 hs
        go_wp2
        go_roundw
        case rel => exact ⟨j - k, by omega, rfl, v5, HW5.out, HB5.out, HM5.out⟩
        case measure => simp [intOf]; omega
      · obtain rfl : j = 0 := by omega
        have HW := Lib.hid hw'
        have HB := Lib.hid hb'
        clear hw' hb'
        go_wp2
        go_ret
        refine ⟨rfl, v', ?_, HB.out, HMM.out⟩
        have := HW.out
        rw [Nat.pow_zero, Nat.div_one, Nat.sub_zero] at this
        exact this
end Go.Proofs.YtipbaajdnnddgaaGreat

/- bytes.Clone, bytes.Equal; the writer's bytes. -/
namespace Go.Proofs.YtipbaajdnnddgaaGreat
open Go.RowKit Go.Tn Go.Tn.Bt

set_option maxRecDepth 20000 in
theorem clone_any (w : World) (v : Value) (bs : List Nat) (h : LSl en8 1 w v bs) (hl : bs.length ≤ 50000) : Calls Tryz.prog 54 #[v] w
    fun e w' => ∃ v', e = .returned v' ∧ LOut en8 1 5 w.heap.size w' v' bs ∧ Below w.heap.size w w' := by
  have hsl := h
  obtain ⟨ao, cap, rfl, h1, h2, h3⟩ := h
  have hnil := fun w => Lib.run_eql_slice_nil (P := Tryz.prog) w 65 5 ao bs.length cap 0 0 Tryz.underlying65
  cases ao with
  | none =>
    have h0 : bs = [] := by
      rcases bs with _ | ⟨x, bs⟩
      · rfl
      · obtain ⟨b, off, hb, _⟩ := h3 (by simp)
        cases hb
    subst h0
    clear hnil hsl h3 h1 hl
    simp only [List.length_nil, Int.ofNat_zero]
    have hnil := fun w => Lib.run_eql_slice_nil (P := Tryz.prog) w 65 5 none 0 cap 0 0 Tryz.underlying65
    go_enter Tryz.func54, Tryz.ntmps54
    go_wp2
    go_ret
    exact ⟨_, rfl, LOut.nil (Nat.le_refl _), Below.refl _ _⟩
  | some p =>
    have hb : Below w.heap.size w (w.alloc (.cells #[] 5)) := (Below.refl _ _).alloc (Nat.le_refl _) _
    have hO : LOut en8 1 5 w.heap.size (w.alloc (.cells #[] 5)) (.slice (some ⟨w.heap.size, 0, none⟩) 0 0) ([] : List Nat) := by
      have := LOut.of_cells (en := en8) (k := 1) (e := 5) (B := w.heap.size) (w := w.alloc (.cells #[] 5)) (b := w.heap.size) (n := 0) (cap := 0) (xs := ([] : List Nat)) (cur := #[]) rfl heap_alloc_at (Nat.le_refl _) (by unfold maxLen; decide) rfl rfl rfl (Nat.le_refl _) (by simp)
      exact this
    have hu := hsl.below hb
    have hsz : ([] : List Nat).length + bs.length ≤ 100000 := by simp; omega
    clear hsl h3
    go_enter Tryz.func54, Tryz.ntmps54
    go_wp2_with (first
      | ((with_reducible refine wpList_appendN el8 hO hu hsz ?_ ?_ ?_); rfl; rfl; (intro v5 w5 hO5 hg5 hl5); go_frame)
      | fail)
    go_ret
    rw [List.nil_append] at hO5
    exact ⟨_, rfl, hO5, hb.grown hg5 (by simp) fun k hk => by cases hk; exact Nat.le_refl _⟩
set_option maxRecDepth 20000 in
theorem done_any (w : World) (a : Nat) (v : Value) (L : List Bool) (h : WrAt w a v L) (hl : L.length ≤ 400000) : Calls Tryz.prog 60 #[.pointer (some ⟨a, 0, none⟩)] w
    fun e w' => ∃ v', e = .returned (.tuple #[v', .int .i64 0]) ∧ LOut en8 1 5 w.heap.size w' v' (pack L) ∧ Below w.heap.size w w' := by
  have hc0 : w.cell? ⟨a, 0, none⟩ = some (.bool true) := cell_of h.blk rfl
  have hc1 : w.cell? ⟨a, 1, none⟩ = some v := cell_of h.blk rfl
  have hc3 : w.cell? ⟨a, 3, none⟩ = some (.int .i64 0) := cell_of h.blk rfl
  have hcl := clone_any w v (pack L) (h.bs.sl el8.len) (by rw [pack_len]; omega)
  obtain ⟨ao, n, c, rfl⟩ := h.bs.shape
  clear h
  go_enter Tryz.func60, Tryz.ntmps60
  go_wp2_with fail
  refine hcl.mono ?_
  rintro e w2 ⟨v', rfl, hO, hb⟩
  have HO := Lib.hid hO
  have HB := Lib.hid hb
  obtain ⟨ao', n', c', rfl⟩ := hO.shape
  clear hO hb hcl
  go_wp2
  go_ret2
  exact ⟨_, rfl, HO.out, HB.out⟩
end Go.Proofs.YtipbaajdnnddgaaGreat
