/- Slots: Free, bit, wide, Encode: walked (printed by gensltc.py). -/
import Derived.Test.YtldimgchpgoggaaGreatMgQuo22
import Derived.Test.YtldimgchpgoggaaGreatMgQuo19
import Derived.Test.YtldimgchpgoggaaGreatMgQuo6
import Derived.Test.YtldimgchpgoggaaGreatMgQuo5
/- Blocks that are kept: plain. No program. -/
namespace Go.Tn.Pc
open Go.Tn.Slo Go.Tn.Ck
/-- Slots, a ring, a number. -/
structure PC where
  L : List Slt
  R : Rn
  num : Nat
def PC.at_ (c : PC) (i : Nat) : Slt := (c.L[i]?).getD Slt.no
/-- Where a block is kept. -/
def PC.find (c : PC) (b : Blk) : Option Nat := (List.range c.L.length).find? fun i => (c.at_ i).used && decide ((c.at_ i).blk = b)
/-- A ring where a slot is another one. -/
def ringSet (r : Rn) (i : Nat) (x : Slt) : Rn := if x = Slt.no then r.drop i else if x.dirty then (r.use i).pin i else r.use i
def PC.set (c : PC) (i : Nat) (x : Slt) : PC := { c with L := c.L.set i x, R := ringSet c.R i x }
structure PC.Ok (c : PC) : Prop where
  len : c.R.L.length = c.L.length
  is : ∀ x ∈ c.L, x.is
  uniq : ∀ i j, i < c.L.length → j < c.L.length → (c.at_ i).used = true → (c.at_ j).used = true → (c.at_ i).blk = (c.at_ j).blk → i = j
  used : ∀ i, i < c.L.length → (c.R.at_ i).used = (c.at_ i).used
theorem is_used {x : Slt} (h : x.is) : x.used = true ↔ x ≠ Slt.no := by
  rcases h with rfl | h
  · exact ⟨(fun h => by cases h), fun h => absurd rfl h⟩
  · refine ⟨fun _ e => ?_, fun _ => h.used⟩
    have := h.used
    rw [e] at this
    cases this
theorem at_of {c : PC} {i : Nat} {x : Slt} (h : c.L[i]? = some x) : c.at_ i = x := by
  unfold PC.at_
  rw [h]
  rfl
theorem at_get {c : PC} {i : Nat} (h : i < c.L.length) : c.L[i]? = some (c.at_ i) := by
  unfold PC.at_
  rw [List.getElem?_eq_getElem h]
  rfl
theorem set_at {c : PC} {i : Nat} (hi : i < c.L.length) (x : Slt) (j : Nat) : (c.set i x).at_ j = if j = i then x else c.at_ j := by
  unfold PC.set PC.at_
  simp only
  rw [List.getElem?_set]
  by_cases h : j = i
  · subst h
    rw [if_pos rfl, if_pos rfl, if_pos hi]
    rfl
  · rw [if_neg h, if_neg (fun e => h e.symm)]
theorem find_some {c : PC} (h : c.Ok) {b : Blk} {i : Nat} : c.find b = some i ↔ i < c.L.length ∧ (c.at_ i).used = true ∧ (c.at_ i).blk = b := by
  unfold PC.find
  constructor
  · intro hf
    have h1 := List.find?_some hf
    have h2 := List.mem_range.1 (List.mem_of_find?_eq_some hf)
    simp only [Bool.and_eq_true, decide_eq_true_eq] at h1
    exact ⟨h2, h1⟩
  · rintro ⟨h1, h2, h3⟩
    refine find_range h1 (by simp [h2, h3]) fun j hj => ?_
    cases hq : ((c.at_ j).used && decide ((c.at_ j).blk = b)) with
    | false => rfl
    | true =>
      simp only [Bool.and_eq_true, decide_eq_true_eq] at hq
      have := h.uniq j i (by omega) h1 hq.1 h2 (hq.2.trans h3.symm)
      omega
theorem find_none {c : PC} {b : Blk} : c.find b = none ↔ ∀ i, i < c.L.length → (c.at_ i).used = true → (c.at_ i).blk ≠ b := by
  unfold PC.find
  rw [List.find?_eq_none]
  constructor
  · intro h i hi hu e
    have := h i (List.mem_range.2 hi)
    rw [hu, decide_eq_true e] at this
    exact this rfl
  · intro h i hi hq
    simp only [Bool.and_eq_true, decide_eq_true_eq] at hq
    exact h i (List.mem_range.1 hi) hq.1 hq.2
theorem ringSet_len (r : Rn) (i : Nat) (x : Slt) : (ringSet r i x).L.length = r.L.length := by
  have hp : ∀ (r : Rn) (p : Pl), (r.put i p).L.length = r.L.length := fun r p => by unfold Rn.put; simp
  unfold ringSet
  split
  · exact hp _ _
  · split
    · unfold Rn.pin
      split
      · rw [hp]; exact hp _ _
      · exact hp _ _
    · exact hp _ _
theorem ringSet_hand (r : Rn) (i : Nat) (x : Slt) : (ringSet r i x).hand = r.hand := by
  unfold ringSet Rn.pin
  split
  · rfl
  · split
    · split <;> rfl
    · rfl
theorem rn_at_put {r : Rn} {i : Nat} (hi : i < r.L.length) (p : Pl) (j : Nat) : (r.put i p).at_ j = if j = i then p else r.at_ j := by
  unfold Rn.at_ Rn.put
  simp only
  rw [List.getElem?_set]
  by_cases h : j = i
  · subst h
    rw [if_pos rfl, if_pos rfl, if_pos hi]
    rfl
  · rw [if_neg h, if_neg (fun e => h e.symm)]
/-- The place of a slot that is set. -/
theorem ringSet_at {r : Rn} {i : Nat} (hi : i < r.L.length) (x : Slt) (j : Nat) : (ringSet r i x).at_ j = if j = i then (if x = Slt.no then Pl.no else ⟨true, x.dirty, true⟩) else r.at_ j := by
  unfold ringSet
  by_cases hx : x = Slt.no
  · rw [if_pos hx, if_pos hx]
    exact rn_at_put hi _ _
  · rw [if_neg hx, if_neg hx]
    cases hd : x.dirty with
    | false =>
      rw [if_neg (by decide)]
      exact rn_at_put hi _ _
    | true =>
      rw [if_pos rfl]
      have h1 : (r.use i).at_ i = ⟨true, false, true⟩ := by
        unfold Rn.use
        rw [rn_at_put hi, if_pos rfl]
      unfold Rn.pin
      rw [h1, if_pos rfl, rn_at_put (by unfold Rn.use Rn.put; simpa using hi)]
      split
      · rfl
      · unfold Rn.use
        rw [rn_at_put hi, if_neg (by assumption)]
/-- A slot is set: where nobody else has its block. -/
theorem PC.Ok.set {c : PC} (h : c.Ok) {i : Nat} (hi : i < c.L.length) {x : Slt} (hx : x.is) (hu : ∀ j, j < c.L.length → j ≠ i → (c.at_ j).used = true → (c.at_ j).blk ≠ x.blk ∨ x = Slt.no) : (c.set i x).Ok := by
  have hl : (c.set i x).L.length = c.L.length := by unfold PC.set; simp
  refine ⟨?_, fun y hy => ?_, fun j k hj hk h1 h2 h3 => ?_, fun j hj => ?_⟩
  · rw [hl]
    exact (ringSet_len _ _ _).trans h.len
  · rcases List.mem_or_eq_of_mem_set hy with hy | hy
    · exact h.is y hy
    · rw [hy]; exact hx
  · rw [hl] at hj hk
    rw [set_at hi] at h1 h3
    rw [set_at hi] at h2 h3
    by_cases hji : j = i
    · rw [if_pos hji] at h1 h3
      by_cases hki : k = i
      · omega
      · rw [if_neg hki] at h2 h3
        rcases hu k hk hki h2 with e | e
        · exact absurd h3.symm e
        · rw [e] at h1
          cases h1
    · rw [if_neg hji] at h1 h3
      by_cases hki : k = i
      · rw [if_pos hki] at h2 h3
        rcases hu j hj hji h1 with e | e
        · exact absurd h3 e
        · rw [e] at h2
          cases h2
      · rw [if_neg hki] at h2 h3
        exact h.uniq j k hj hk h1 h2 h3
  · rw [hl] at hj
    have hR : (c.set i x).R.at_ j = (ringSet c.R i x).at_ j := rfl
    rw [hR, ringSet_at (by rw [h.len]; exact hi), set_at hi]
    by_cases hji : j = i
    · rw [if_pos hji, if_pos hji]
      by_cases hn : x = Slt.no
      · rw [if_pos hn, hn]
        rfl
      · rw [if_neg hn]
        exact ((is_used hx).2 hn).symm
    · rw [if_neg hji, if_neg hji]
      exact h.used j hj
end Go.Tn.Pc

/- A writer that may have failed; texts: walked. -/
namespace Go.Tn.Slo
open Go.RowKit Go.Tn.Bt
/-- A number is put behind; none: it failed. -/
def putX (st : Option (List Bool)) (x n : Nat) : Option (List Bool) := st.bind fun L => if x < 2 ^ n then some (L ++ bitsN x n) else none
end Go.Tn.Slo
namespace Go.Proofs.YtldimgchpgoggaaGreat
open Go.RowKit Go.Tn Go.Tn.Bt Go.Tn.Slo
/-- A writer; none: it failed. -/
def WrX (w : World) (a : Nat) : Option (List Bool) → Prop
  | some L => ∃ v, WrAt w a v L
  | none => ∃ v u, w.heap[a]? = some (.cells #[.bool true, v, .int .i64 u, .int .i64 2] 189 (0, 0))
theorem put_bad {w : World} {a : Nat} {v : Value} {u : Int} (h : w.heap[a]? = some (.cells #[.bool true, v, .int .i64 u, .int .i64 2] 189 (0, 0))) (x n : Int) : Calls Tryz.prog 92 #[.pointer (some ⟨a, 0, none⟩), .int .u64 x, .int .i64 n] w fun e w' => e = .returned (.pointer (some ⟨a, 0, none⟩)) ∧ w' = w := by
  have hc0 : w.cell? ⟨a, 0, none⟩ = some (.bool true) := cell_of h rfl
  have hc3 : w.cell? ⟨a, 3, none⟩ = some (.int .i64 2) := cell_of h rfl
  clear h
  go_enter Tryz.func92, Tryz.ntmps92
  go_wp2
  go_ret
  exact ⟨rfl, rfl⟩
theorem fail_any {w : World} {a : Nat} {v : Value} {u : Int} (h : w.heap[a]? = some (.cells #[.bool true, v, .int .i64 u, .int .i64 0] 189 (0, 0))) : Calls Tryz.prog 126 #[.pointer (some ⟨a, 0, none⟩), .int .i64 2] w
    fun e w' => e = .returned (.pointer (some ⟨a, 0, none⟩)) ∧ w'.heap[a]? = some (.cells #[.bool true, v, .int .i64 u, .int .i64 2] 189 (0, 0)) ∧ Mod (fun b => b = a) w w' := by
  have hc3 : w.cell? ⟨a, 3, none⟩ = some (.int .i64 0) := cell_of h rfl
  have hf3 : w.frozen? ⟨a, 3, none⟩ = false := free_of h
  have hend : (w.setCell ⟨a, 3, none⟩ (.int .i64 2)).heap[a]? = some (.cells #[.bool true, v, .int .i64 u, .int .i64 2] 189 (0, 0)) := by
    rw [heap_setCell_at h]
    rfl
  have HE := Lib.hid hend
  have HM := Lib.hid ((Mod.refl (fun b => b = a) w).setCell ⟨a, 3, none⟩ (.int .i64 2) (fun _ => rfl))
  clear h hend
  go_enter Tryz.func126, Tryz.ntmps126
  go_wp2
  go_ret
  exact ⟨rfl, HE.out, HM.out⟩
theorem put_wide {w : World} {a : Nat} {v : Value} {L : List Bool} (h : WrAt w a v L) (x n : Nat) (hn : n < 64) (hx : 2 ^ n ≤ x) (hx64 : x < 2 ^ 64) : Calls Tryz.prog 92 #[.pointer (some ⟨a, 0, none⟩), .int .u64 x, .int .i64 n] w
    fun e w' => e = .returned (.pointer (some ⟨a, 0, none⟩)) ∧ WrX w' a none ∧ Below a w w' := by
  have hc0 : w.cell? ⟨a, 0, none⟩ = some (.bool true) := cell_of h.blk rfl
  have hc3 : w.cell? ⟨a, 3, none⟩ = some (.int .i64 0) := cell_of h.blk rfl
  have hfl := fail_any h.blk
  have hal := lt_of_block h.blk
  have hn' : (n : Int) < 64 := by omega
  have hn0 : (0 : Int) ≤ n := by omega
  have hdn : decide ((n : Int) < 0) = false := by simp
  have hdm : decide (64 < (n : Int)) = false := by simp; omega
  have hq : ∃ q : Nat, (x : Int) / 2 ^ n = (q : Int) ∧ 1 ≤ q := by
    refine ⟨x / 2 ^ n, by norm_cast, ?_⟩
    exact (Nat.le_div_iff_mul_le (Nat.two_pow_pos n)).2 (by omega)
  obtain ⟨q, hq1, hq2⟩ := hq
  have hqn : (((q : Nat) : Int) == 0) = false := beq_eq_false_iff_ne.2 (by omega)
  clear h hx hx64 hq2
  go_enter Tryz.func92, Tryz.ntmps92
  go_wp2_with fail
  refine hfl.mono ?_
  rintro e w2 ⟨rfl, h2, hm⟩
  have H2 := Lib.hid h2
  have HM := Lib.hid hm
  clear hfl h2 hm
  go_wp2
  go_ret
  exact ⟨rfl, ⟨_, _, H2.out⟩, HM.out.below (Nat.le_of_lt hal) fun x hx e => by omega⟩
theorem put_x {w : World} {a : Nat} {st : Option (List Bool)} (h : WrX w a st) (x n : Nat) (hL : ∀ L, st = some L → L.length + n ≤ 400000) (hn : n < 64) (hx : x < 2 ^ 64) : Calls Tryz.prog 92 #[.pointer (some ⟨a, 0, none⟩), .int .u64 x, .int .i64 n] w
    fun e w' => e = .returned (.pointer (some ⟨a, 0, none⟩)) ∧ WrX w' a (putX st x n) ∧ Below a w w' := by
  cases st with
  | none =>
    obtain ⟨v, u, h⟩ := h
    refine (put_bad h x n).mono ?_
    rintro e w' ⟨rfl, rfl⟩
    exact ⟨rfl, ⟨v, u, h⟩, Below.refl _ _⟩
  | some L =>
    obtain ⟨v, h⟩ := h
    by_cases hxn : x < 2 ^ n
    · refine (put_bits w a v L h x n (hL L rfl) (by omega) hxn).mono ?_
      rintro e w' ⟨rfl, v', h', hb, -⟩
      have e1 : putX (some L) x n = some (L ++ bitsN x n) := by
        show (if x < 2 ^ n then _ else _) = _
        rw [if_pos hxn]
      rw [e1]
      exact ⟨rfl, ⟨v', h'⟩, hb⟩
    · refine (put_wide h x n hn (by omega) hx).mono ?_
      rintro e w' ⟨rfl, h', hb⟩
      have e1 : putX (some L) x n = none := by
        show (if x < 2 ^ n then _ else _) = _
        rw [if_neg hxn]
      rw [e1]
      exact ⟨rfl, h', hb⟩
/-- A text is put behind. -/
def textX (st : Option (List Bool)) (s : ByteArray) : Option (List Bool) := st.map (· ++ txBits s)
/-- Its first bytes. -/
def txPart (s : ByteArray) (k : Nat) : List Bool := bitsN s.size 16 ++ (s.data.toList.take k).flatMap fun c => bitsN c.toNat 8
theorem txPart_all (s : ByteArray) : txPart s s.size = txBits s := by
  unfold txPart txBits
  have : s.data.toList.length = s.size := rfl
  rw [List.take_of_length_le (by omega)]
theorem txPart_snoc (s : ByteArray) {k : Nat} (h : k < s.size) : txPart s (k + 1) = txPart s k ++ bitsN s[k].toNat 8 := by
  unfold txPart
  rw [List.take_succ_eq_append_getElem (by simpa using h), List.flatMap_append, List.append_assoc]
  simp
  rfl
theorem txPart_len (s : ByteArray) (k : Nat) : (txPart s k).length ≤ 16 + 8 * k := by
  unfold txPart
  rw [List.length_append, bitsN_len, c8_len, List.length_take]
  omega
theorem WrX.c0 {w : World} {a : Nat} {st : Option (List Bool)} (h : WrX w a st) : w.cell? ⟨a, 0, none⟩ = some (.bool true) := by
  cases st with
  | none =>
    obtain ⟨v, u, h⟩ := h
    exact cell_of h rfl
  | some L =>
    obtain ⟨v, h⟩ := h
    exact cell_of h.blk rfl
set_option maxRecDepth 20000 in
set_option maxHeartbeats 2000000 in
theorem text_x {w : World} {a : Nat} {st : Option (List Bool)} (h : WrX w a st) (s : ByteArray) (hs : s.size < 65536) (hL : ∀ L, st = some L → L.length + 16 + 8 * s.size ≤ 400000) : Calls Tryz.prog 95 #[.pointer (some ⟨a, 0, none⟩), .string s] w
    fun e w' => e = .returned (.pointer (some ⟨a, 0, none⟩)) ∧ WrX w' a (textX st s) ∧ Below a w w' := by
  have hc0 := h.c0
  have hsz : decide ((65536 : Int) ≤ ((s.size : Nat) : Int)) = false := decide_eq_false (by omega)
  have hp := put_x h s.size 16 (fun L e => by have := hL L e; omega) (by decide) (by omega)
  have e1 : putX st s.size 16 = st.map (· ++ txPart s 0) := by
    cases st with
    | none => rfl
    | some L =>
      show (if s.size < 2 ^ 16 then _ else _) = some (L ++ txPart s 0)
      rw [if_pos (by omega)]
      simp [txPart]
  rw [e1] at hp
  have HL := Lib.hid hL
  have hwr : IntKind.u64.wrap ((s.size : Nat) : Int) = ((s.size : Nat) : Int) := by rw [Bt.wrap64, Nat.mod_eq_of_lt (by omega)]
  have HWR := Lib.hid hwr
  have HS := Lib.hid hs
  clear h hL e1 hs hwr
  go_enter Tryz.func95, Tryz.ntmps95
  go_upto_region 5 with fail
  clear hsz
  have hwr := HWR.out
  go_wp2_with fail
  refine hp.mono ?_
  rintro e w2 ⟨rfl, hW2, hb2⟩
  have HW2 := Lib.hid hW2
  have HB2 := Lib.hid hb2
  clear hp hW2 hb2 hc0 hwr
  go_wp2_with fail
  go_loopw [28] (fun iv wi => ∃ k : Nat, k ≤ s.size ∧ iv = .int .i64 k ∧ WrX wi a (st.map (· ++ txPart s k)) ∧ Below a w wi) (fun iv _ => s.size - (intOf iv).toNat)
  case atStart => exact ⟨0, Nat.zero_le _, rfl, HW2.out, HB2.out⟩
  case round =>
    obtain ⟨k, hk, rfl, hW, hb⟩ := hrel
    by_cases hks : k < s.size
    · have hp := put_x hW s[k].toNat 8 (fun L e => by
        cases st with
        | none => cases e
        | some L0 =>
          cases e
          have := HL.out L0 rfl
          have := txPart_len s k
          rw [List.length_append]
          omega) (by decide) (by have := s[k].toNat_lt; omega)
      have e1 : putX (st.map (· ++ txPart s k)) s[k].toNat 8 = st.map (· ++ txPart s (k + 1)) := by
        cases st with
        | none => rfl
        | some L =>
          show (if s[k].toNat < 2 ^ 8 then _ else _) = some (L ++ txPart s (k + 1))
          rw [if_pos (by have := s[k].toNat_lt; omega), txPart_snoc s hks, List.append_assoc]
      rw [e1] at hp
      have HB := Lib.hid hb
      have hlt : s[k].toNat < 256 := s[k].toNat_lt
      have hbw : IntKind.u64.wrap ((s[k].toNat : Nat) : Int) = ((s[k].toNat : Nat) : Int) := by rw [Bt.wrap64, Nat.mod_eq_of_lt (by omega)]
      have hkb : (k : Int) < 100000 := by have := HS.out; omega
      clear hW hb e1 hlt
      go_wp2_with fail
      refine hp.mono ?_
      rintro e w3 ⟨rfl, hW3, hb3⟩
      have HW3 := Lib.hid hW3
      have HB3 := Lib.hid (HB.out.trans hb3)
      clear hp hW3 hb3
      go_wp2
      go_roundw
      case rel => exact ⟨k + 1, by omega, by go_num, HW3.out, HB3.out⟩
      case measure => simp [intOf]; omega
    · obtain rfl : k = s.size := by omega
      rw [txPart_all] at hW
      have HW := Lib.hid hW
      have HB := Lib.hid hb
      clear hW hb
      go_wp2
      go_ret
      exact ⟨rfl, HW.out, HB.out⟩
/-- What Done answers. -/
theorem done_x {w : World} {a : Nat} {st : Option (List Bool)} (h : WrX w a st) (hl : ∀ L, st = some L → L.length ≤ 400000) : Calls Tryz.prog 96 #[.pointer (some ⟨a, 0, none⟩)] w
    fun e w' => (∃ L v', st = some L ∧ e = .returned (.tuple #[v', .int .i64 0]) ∧ LOut en8 1 5 w.heap.size w' v' (pack L) ∧ Below w.heap.size w w') ∨ (st = none ∧ e = .returned (.tuple #[.slice none 0 0, .int .i64 2]) ∧ Below w.heap.size w w') := by
  cases st with
  | some L =>
    obtain ⟨v, h⟩ := h
    refine (done_any w a v L h (hl L rfl)).mono ?_
    rintro e w' ⟨v', rfl, hO, hb⟩
    exact .inl ⟨L, v', rfl, rfl, hO, hb⟩
  | none =>
    obtain ⟨v, u, h⟩ := h
    have hc0 : w.cell? ⟨a, 0, none⟩ = some (.bool true) := cell_of h rfl
    have hc3 : w.cell? ⟨a, 3, none⟩ = some (.int .i64 2) := cell_of h rfl
    clear h hl
    have hd : Calls Tryz.prog 96 #[.pointer (some ⟨a, 0, none⟩)] w fun e w' => e = .returned (.tuple #[.slice none 0 0, .int .i64 2]) ∧ Below w.heap.size w w' := by
      go_enter Tryz.func96, Tryz.ntmps96
      go_upto_region 4 with fail
      have hS : w.drew.cell? ⟨a, 3, none⟩ = some (.int .i64 2) := hc3
      refine wp_region_x (fun w' => w'.cell? ⟨a, 3, none⟩ = some (.int .i64 2)) [(0, 1), (1, 1), (2, 1), (3, 0), (4, 1), (5, 1)] (by kernel_rfl) (by kernel_rfl) (by intro d v c a w h; cases d <;> exact h) ?_
      iterate 3 (refine x_take rfl (fun K hK => ?_); go_simp; refine hK _ ?_; clear hK K)
      refine x_read rfl hS (fun w' h => exec_load1 ⟨⟨_, Tryz.underlying26, rfl⟩⟩ rfl h) ?_
      iterate 2 (refine x_take rfl (fun K hK => ?_); go_simp; refine hK _ ?_; clear hK K)
      refine x_nil ?_
      go_wp2
      go_ret2
      exact ⟨rfl, Below.refl _ _ |>.drew⟩
    exact hd.mono fun e w' he => .inr ⟨rfl, he⟩
end Go.Proofs.YtldimgchpgoggaaGreat

/- Slots: Free, bit, wide, Encode: walked (printed by gensltc.py). -/
namespace Go.Tn.Slo
open Go.RowKit Go.Tn.Bt
/-- A number as 64 bits. -/
def wideN (n : Int) : Nat := (n % 18446744073709551616).toNat
theorem wideN_lt (n : Int) : wideN n < 2 ^ 64 := by
  unfold wideN
  omega
/-- What a slot's writer has, in the end. -/
def stX (x : Slt) : Option (List Bool) := (putX (putX (putX (putX (putX (putX (some []) x.used.toNat 1) x.dirty.toNat 1) (wideN x.blk.1) 6) (wideN x.blk.2.1) 31) (wideN x.blk.2.2) 3) x.ver 40).map (· ++ txBits x.data)
def StLe (st : Option (List Bool)) (m : Nat) : Prop := ∀ L, st = some L → L.length ≤ m
theorem StLe.put {st : Option (List Bool)} {m : Nat} (h : StLe st m) (x n : Nat) : StLe (putX st x n) (m + n) := fun L hL => by
  cases st with
  | none => cases hL
  | some L0 =>
    have hL : (if x < 2 ^ n then some (L0 ++ bitsN x n) else none) = some L := hL
    split at hL
    · cases hL
      have := h L0 rfl
      rw [List.length_append, bitsN_len]
      omega
    · cases hL
theorem putX_some {L : List Bool} {x n : Nat} (h : x < 2 ^ n) : putX (some L) x n = some (L ++ bitsN x n) := by
  show (if x < 2 ^ n then _ else _) = _
  rw [if_pos h]
theorem putX_wide {st : Option (List Bool)} {x n : Nat} (h : ¬ x < 2 ^ n) : putX st x n = none := by
  cases st with
  | none => rfl
  | some L =>
    show (if x < 2 ^ n then _ else _) = _
    rw [if_neg h]
theorem wideN_of {n : Int} {k : Nat} (h0 : -9223372036854775808 ≤ n ∧ n < 9223372036854775808) (hk : k ≤ 9223372036854775808) : wideN n < k ↔ 0 ≤ n ∧ n < (k : Int) := by
  unfold wideN
  omega
theorem wideN_nat {n : Int} (h : 0 ≤ n) (h2 : n < 9223372036854775808) : wideN n = n.toNat := by
  unfold wideN
  omega
theorem stX_fits {x : Slt} (hu : x.used = true) (hi : 1 ≤ x.blk.1 ∧ x.blk.1 ≤ 40) (hs : x.data.size ≤ 64) (hg : -9223372036854775808 ≤ x.blk.2.1 ∧ x.blk.2.1 < 9223372036854775808) (ha : -9223372036854775808 ≤ x.blk.2.2 ∧ x.blk.2.2 < 9223372036854775808) :
    stX x = if x.fits then some x.bits else none := by
  unfold stX
  have h1 : x.used.toNat < 2 ^ 1 := by cases x.used <;> decide
  have h2 : x.dirty.toNat < 2 ^ 1 := by cases x.dirty <;> decide
  have h3 : wideN x.blk.1 < 2 ^ 6 := (wideN_of (by omega) (by decide)).2 (by omega)
  rw [putX_some h1, putX_some h2, putX_some h3]
  by_cases h4 : wideN x.blk.2.1 < 2 ^ 31
  · have h4' := (wideN_of hg (by decide)).1 h4
    rw [putX_some h4]
    by_cases h5 : wideN x.blk.2.2 < 2 ^ 3
    · have h5' := (wideN_of ha (by decide)).1 h5
      rw [putX_some h5]
      by_cases h6 : x.ver < 2 ^ 40
      · have hf : x.fits := ⟨hu, hi, by omega, by omega, by omega, hs⟩
        rw [putX_some h6, if_pos hf]
        unfold Slt.bits
        rw [if_pos hu, hu, wideN_nat (by omega) (by omega), wideN_nat (by omega) (by omega), wideN_nat (by omega) (by omega)]
        simp [List.append_assoc]
      · rw [putX_wide h6, if_neg (fun hf => h6 (by have := hf.ver; omega))]
        rfl
    · rw [putX_wide h5, if_neg (fun hf => h5 ((wideN_of ha (by decide)).2 (by have := hf.at_; omega)))]
      rfl
  · rw [putX_wide h4, if_neg (fun hf => h4 ((wideN_of hg (by decide)).2 (by have := hf.gen; omega)))]
    rfl
end Go.Tn.Slo
namespace Go.Proofs.YtldimgchpgoggaaGreat
open Go.RowKit Go.Tn Go.Tn.Bt Go.Tn.Ino Go.Tn.Slo
theorem zero8 : (Tryz.prog.info? 5).map (fun i => i.zero.map (·.cells)) = some (some #[.int .u8 0]) := by kernel_rfl
theorem en8_0 : en8 0 = [.int .u8 0] := rfl
abbrev enSl : Slt → List Value := fun x => [.bool x.used, .int .i64 x.blk.1, .int .i64 x.blk.2.1, .int .i64 x.blk.2.2, .int .u64 (x.ver : Nat), .bool x.dirty, .string x.data]
/-- A slot's cells. -/
abbrev slC (x : Slt) : Array Value := #[.bool x.used, .int .i64 x.blk.1, .int .i64 x.blk.2.1, .int .i64 x.blk.2.2, .int .u64 (x.ver : Nat), .bool x.dirty, .string x.data]
theorem aggSl (x : Slt) : AggT Tryz.prog 42 (slC x).size := ⟨⟨_, Tryz.underlying42, rfl⟩, by kernel_rfl⟩
theorem oneSl (x : Slt) : (slC x).all (·.oneCell') = true := by simp [Value.oneCell']
set_option maxRecDepth 20000 in
theorem built_no : Tryz.prog.built 42 [] = some (slC Slt.no) := by kernel_rfl
/-- Its numbers are 64 bits'. -/
def Slt.w64 (x : Slt) : Prop := (-9223372036854775808 ≤ x.blk.1 ∧ x.blk.1 < 9223372036854775808) ∧ (-9223372036854775808 ≤ x.blk.2.1 ∧ x.blk.2.1 < 9223372036854775808) ∧ (-9223372036854775808 ≤ x.blk.2.2 ∧ x.blk.2.2 < 9223372036854775808) ∧ x.ver < 2 ^ 64
theorem Slt.fits.w64 {x : Slt} (h : x.fits) : Slt.w64 x := by
  have h1 := h.ino
  have h2 := h.gen
  have h3 := h.at_
  have h4 := h.ver
  exact ⟨by omega, by omega, by omega, by omega⟩
theorem eqSlt_b (x y : Slt) : decide (x = y) = (x.used == y.used && (x.blk.1 == y.blk.1 && x.blk.2.1 == y.blk.2.1 && x.blk.2.2 == y.blk.2.2 && (decide (x.ver = y.ver) && (x.dirty == y.dirty && x.data.toList == y.data.toList)))) := by
  rw [Bool.eq_iff_iff]
  obtain ⟨u, ⟨i, g, a⟩, v, d, s⟩ := x
  obtain ⟨u', ⟨i', g', a'⟩, v', d', s'⟩ := y
  simp only [decide_eq_true_eq, Slt.mk.injEq, Prod.mk.injEq, Bool.and_eq_true, beq_iff_eq]
  have hs : s = s' ↔ s.toList = s'.toList := by
    refine ⟨fun h => by rw [h], fun h => ?_⟩
    rw [ByteArray.toList_eq, ByteArray.toList_eq] at h
    obtain ⟨⟨l⟩⟩ := s
    obtain ⟨⟨l'⟩⟩ := s'
    simp at h
    rw [h]
  rw [hs]
  constructor
  · rintro ⟨h1, ⟨h2, h3, h4⟩, h5, h6, h7⟩
    exact ⟨h1, ⟨⟨h2, h3⟩, h4⟩, h5, h6, h7⟩
  · rintro ⟨h1, ⟨⟨h2, h3⟩, h4⟩, h5, h6, h7⟩
    exact ⟨h1, ⟨h2, h3, h4⟩, h5, h6, h7⟩
set_option maxRecDepth 20000 in
theorem eqSlt (w : World) (x y : Slt) : (Op.equalIn 10000 42 (.agg (slC x)) (.agg (slC y))).run Tryz.prog w = .ok (decide (x = y)) w := by
  rw [run_equalIn_agg w 9999 42 _ _ (by simp [Program.fieldsOf, Tryz.underlying42]) (by kernel_rfl)]
  rw [eqSlt_b]
  obtain ⟨u, ⟨i, g, a⟩, v, d, s⟩ := x
  obtain ⟨u', ⟨i', g', a'⟩, v', d', s'⟩ := y
  simp only
  simp [go_sem, Program.fieldsOf, Tryz.underlying42, Tryz.underlying35, Tryz.underlying33, Op.eqFields, part, isAgg]
  have hv : ((v : Int) = (v' : Int)) ↔ v = v' := by omega
  simp only [hv]
  by_cases h1 : u = u'
  · by_cases h2 : i = i'
    · by_cases h3 : g = g'
      · by_cases h4 : a = a'
        · by_cases h5 : v = v'
          · by_cases h6 : d = d'
            · by_cases h7 : s.toList = s'.toList
              · simp [h1, h2, h3, h4, h5, h6, h7]
              · simp [h1, h2, h3, h4, h5, h6, h7]
            · simp [h1, h2, h3, h4, h5, h6]
          · simp [h1, h2, h3, h4, h5]
        · simp [h1, h2, h3, h4]
      · simp [h1, h2, h3]
    · simp [h1, h2]
  · simp [h1]
theorem sbit_any (w : World) (b : Bool) : Calls Tryz.prog 93 #[.bool b] w fun e w' => e = .returned (.int .u64 (b.toNat : Nat)) ∧ w' = w := by
  cases b
  · go_enter Tryz.func93, Tryz.ntmps93
    go_wp2
    go_ret
    exact ⟨rfl, rfl⟩
  · go_enter Tryz.func93, Tryz.ntmps93
    go_wp2
    go_ret
    exact ⟨rfl, rfl⟩
theorem swide_any (w : World) (n : Int) (h : -9223372036854775808 ≤ n ∧ n < 9223372036854775808) : Calls Tryz.prog 94 #[.int .i64 n] w fun e w' => e = .returned (.int .u64 (wideN n : Nat)) ∧ w' = w := by
  have hw : IntKind.u64.wrap n = ((wideN n : Nat) : Int) := by
    rw [IntKind.wrap_u64]
    unfold wideN
    omega
  clear h
  generalize wideN n = q at *
  go_enter Tryz.func94, Tryz.ntmps94
  go_wp2
  go_ret
  exact ⟨rfl, rfl⟩
set_option maxRecDepth 20000 in
theorem sfree_any (w : World) (x : Slt) : Calls Tryz.prog 28 #[.agg (slC x)] w fun e w' => e = .returned (.bool (decide (x = Slt.no))) ∧ Below w.heap.size w w' := by
  have hL : Lies (w.alloc (.cells (slC x) 42)) w.heap.size 0 (slC x) := lies_of heap_alloc_at
  have hb : Below w.heap.size w (w.alloc (.cells (slC x) 42)) := (Below.refl _ _).alloc (Nat.le_refl _) _
  have hag := aggSl x
  have hbn := built_no
  have hgt : Tryz.prog.eqGuardType Tryz.prog.depth 42 = false := by kernel_rfl
  have heq := fun w => eqSlt w x Slt.no
  generalize decide (x = Slt.no) = q at *
  go_enter Tryz.func28, Tryz.ntmps28
  go_wp2_with (first
    | ((with_reducible refine wpList_loadA hag hL ?_ ?_); rfl; go_frame)
    | ((with_reducible refine wpList_exec rfl (exec_buildA (vals := []) ?_ hbn) ?_); rfl; go_frame)
    | ((with_reducible refine wpList_exec rfl (exec_eqlS hgt heq ?_ ?_ _) ?_); rfl; rfl; go_frame)
    | fail)
  go_ret
  exact ⟨rfl, hb⟩
/-- What Encode answers. -/
def SEnc (w : World) (x : Slt) (e : Ending) (w' : World) : Prop := (if x.is then ∃ v, e = .returned (.tuple #[v, .int .i64 0]) ∧ LOut en8 1 5 w.heap.size w' v x.sec else e = .returned (.tuple #[.slice none 0 0, .int .i64 2])) ∧ Below w.heap.size w w'
theorem aggFi (i g : Int) : AggT Tryz.prog 33 (#[.int .i64 i, .int .i64 g] : Array Value).size := ⟨⟨_, Tryz.underlying33, rfl⟩, by kernel_rfl⟩
theorem oneFi (i g : Int) : (#[.int .i64 i, .int .i64 g] : Array Value).all (·.oneCell') = true := by simp [Value.oneCell']
theorem zero_en8 : (Tryz.prog.info? 5).map (fun i => i.zero.map (·.cells)) = some (some (en8 0).toArray) := by kernel_rfl
set_option maxRecDepth 20000 in
set_option maxHeartbeats 4000000 in
/-- A free slot. -/
theorem senc_free (w : World) : Calls Tryz.prog 62 #[.agg (slC Slt.no)] w fun e w' => ∃ v, e = .returned (.tuple #[v, .int .i64 0]) ∧ LOut en8 1 5 w.heap.size w' v Slt.no.sec ∧ Below w.heap.size w w' := by
  have hL : Lies (w.alloc (.cells (slC Slt.no) 42)) w.heap.size 0 (slC Slt.no) := lies_of heap_alloc_at
  have hb : Below w.heap.size w (w.alloc (.cells (slC Slt.no) 42)) := (Below.refl _ _).alloc (Nat.le_refl _) _
  have hag := aggSl Slt.no
  have hfr := sfree_any (w.alloc (.cells (slC Slt.no) 42)) Slt.no
  rw [decide_eq_true (rfl : Slt.no = Slt.no)] at hfr
  have HB := Lib.hid hb
  clear hb
  generalize hw1 : w.alloc (.cells (slC Slt.no) 42) = w1 at hL hfr HB
  go_enter Tryz.func62, Tryz.ntmps62
  go_upto_region 1 with fail
  clear hw1
  go_wp2_with (first
    | ((with_reducible refine wpList_loadA hag hL ?_ ?_); rfl; go_frame)
    | fail)
  refine hfr.mono ?_
  rintro e w2 ⟨rfl, hb2⟩
  obtain ⟨w3, hmk, hO, hb3, -⟩ := exec_makeA el8 0 zero_en8 128 (by decide) w2
  rw [show ((128 : Nat) : Int) = 128 from rfl] at hmk
  have HB2 := Lib.hid (HB.out.trans (hb2.mono HB.out.size))
  have HO := Lib.hid hO
  have HB3 := Lib.hid hb3
  clear hfr hb2 hO hb3 hL
  go_wp2_with (first
    | ((with_reducible refine wpList_exec rfl (hmk _ _ _ _ _ _ _ _ ?_ ?_) ?_); rfl; rfl; go_frame)
    | fail)
  go_ret2
  refine ⟨_, rfl, ?_, HB2.out.trans (HB3.out.mono HB2.out.size)⟩
  rw [no_sec]
  exact HO.out.mono HB2.out.size
/-- Why a slot is refused at once. -/
theorem srefused {x : Slt} (h : x.is) (hn : x ≠ Slt.no) : x.used = true ∧ 1 ≤ x.blk.1 ∧ x.blk.1 ≤ 40 ∧ x.data.size ≤ 64 := by
  rcases h with h | h
  · exact absurd h hn
  · exact ⟨h.used, h.ino.1, h.ino.2, h.size⟩
set_option maxRecDepth 20000 in
set_option maxHeartbeats 8000000 in
theorem senc_any (w : World) (x : Slt) (h64 : Slt.w64 x) (hmx : x.data.size ≤ maxLen) : Calls Tryz.prog 62 #[.agg (slC x)] w fun e w' => SEnc w x e w' := by
  by_cases hno : x = Slt.no
  · subst hno
    refine (senc_free w).mono ?_
    rintro e w' ⟨v, rfl, hO, hb⟩
    unfold SEnc
    rw [if_pos (.inl rfl)]
    exact ⟨⟨v, rfl, hO⟩, hb⟩
  unfold maxLen at hmx
  have hmx' : (x.data.size : Int) ≤ 9223372036854775807 := by omega
  have hk1 : (w.alloc (.cells (slC x) 42)).heap[w.heap.size]? = some (.cells (slC x) 42 (0, 0)) := heap_alloc_at
  have hb : Below w.heap.size w (w.alloc (.cells (slC x) 42)) := (Below.refl _ _).alloc (Nat.le_refl _) _
  have hag := aggSl x
  have hfr := sfree_any (w.alloc (.cells (slC x) 42)) x
  rw [decide_eq_false hno] at hfr
  have HB := Lib.hid hb
  have HNO := Lib.hid hno
  have HR := Lib.hid h64
  clear hb hno h64
  generalize hw1 : w.alloc (.cells (slC x) 42) = w1 at hk1 hfr HB
  generalize hsb : w.heap.size = sb at hk1
  have hL := lies_of hk1
  have HK1 := Lib.hid hk1
  have HSB := Lib.hid hsb
  clear hk1 hsb
  go_enter Tryz.func62, Tryz.ntmps62
  go_upto_region 1 with fail
  rw [HSB.out]
  clear hw1
  go_wp2_with (first
    | ((with_reducible refine wpList_loadA hag hL ?_ ?_); rfl; go_frame)
    | fail)
  refine hfr.mono ?_
  rintro e w2 ⟨rfl, hb2⟩
  have hk2 := (hb2.block sb (lt_of_block HK1.out)).trans HK1.out
  have hLF : Lies w2 sb 1 #[.int .i64 x.blk.1, .int .i64 x.blk.2.1] := fun j hj => by
    match j, hj with
    | 0, _ => exact cell_of hk2 rfl
    | 1, _ => exact cell_of hk2 rfl
  have hkf : (w2.alloc (.cells #[.int .i64 x.blk.1, .int .i64 x.blk.2.1] 33)).heap[w2.heap.size]? = some (.cells #[.int .i64 x.blk.1, .int .i64 x.blk.2.1] 33 (0, 0)) := heap_alloc_at
  have hbf : Below w2.heap.size w2 (w2.alloc (.cells #[.int .i64 x.blk.1, .int .i64 x.blk.2.1] 33)) := (Below.refl _ _).alloc (Nat.le_refl _) _
  have hkx := (hbf.block sb (lt_of_block hk2)).trans hk2
  have haf := aggFi x.blk.1 x.blk.2.1
  have hof := oneFi x.blk.1 x.blk.2.1
  have HBF := Lib.hid (HB.out.trans ((hb2.mono HB.out.size).trans (hbf.mono (by have := HB.out.size; have := hb2.size; omega))))
  have HKF := Lib.hid hkf
  have HKX := Lib.hid hkx
  clear hb2 hk2 hkf hbf hkx hL hfr HK1
  go_upto_region 4 with (first
    | ((with_reducible refine wpList_loadA haf hLF ?_ ?_); rfl; go_frame)
    | ((with_reducible refine wpList_storeA_new haf ?_ hof ?_ ?_ ?_); rfl; rfl; rfl; go_frame)
    | fail)
  generalize w2.alloc (.cells #[.int .i64 x.blk.1, .int .i64 x.blk.2.1] 33) = wf at *
  generalize w2.heap.size = fb at *
  have c0 : wf.cell? ⟨sb, 0, none⟩ = some (.bool x.used) := cell_of HKX.out rfl
  have c3 : wf.cell? ⟨sb, 3, none⟩ = some (.int .i64 x.blk.2.2) := cell_of HKX.out rfl
  have c4 : wf.cell? ⟨sb, 4, none⟩ = some (.int .u64 (x.ver : Nat)) := cell_of HKX.out rfl
  have c5 : wf.cell? ⟨sb, 5, none⟩ = some (.bool x.dirty) := cell_of HKX.out rfl
  have c6 : wf.cell? ⟨sb, 6, none⟩ = some (.string x.data) := cell_of HKX.out rfl
  have cf0 : wf.cell? ⟨fb, 0, none⟩ = some (.int .i64 x.blk.1) := cell_of HKF.out rfl
  have cf1 : wf.cell? ⟨fb, 1, none⟩ = some (.int .i64 x.blk.2.1) := cell_of HKF.out rfl
  have hsb := lt_of_block HKX.out
  have hfb := lt_of_block HKF.out
  clear hLF
  by_cases hok : x.used = true ∧ 1 ≤ x.blk.1 ∧ x.blk.1 ≤ 40 ∧ x.data.size ≤ 64
  case neg =>
    have hnis : ¬ x.is := fun h => hok (srefused h HNO.out)
    have HP : Hid (SEnc w x (.returned (.tuple #[.slice none 0 0, .int .i64 2])) wf) := Lib.hid (by
      unfold SEnc
      rw [if_neg hnis]
      exact ⟨rfl, HBF.out⟩)
    clear hnis
    by_cases hu : x.used = true
    · rw [hu] at c0
      by_cases hi1 : 1 ≤ x.blk.1
      · by_cases hi2 : x.blk.1 ≤ 40
        · have hs : decide ((64 : Int) < (x.data.size : Int)) = true := decide_eq_true (by
            have : ¬ x.data.size ≤ 64 := fun h => hok ⟨hu, hi1, hi2, h⟩
            omega)
          clear hok hu
          go_wp2
          go_ret2
          exact HP.out
        · have hi2' : 40 < x.blk.1 := by omega
          clear hok hu hi2
          go_wp2
          go_ret2
          exact HP.out
      · have hi1' : x.blk.1 < 1 := by omega
        clear hok hu hi1
        go_wp2
        go_ret2
        exact HP.out
    · have hu' : x.used = false := by simpa using hu
      rw [hu'] at c0
      clear hok hu
      go_wp2
      go_ret2
      exact HP.out
  obtain ⟨hu, hi1, hi2, hs64⟩ := hok
  have hsd : decide ((64 : Int) < (x.data.size : Int)) = false := decide_eq_false (by omega)
  have HSZ : Hid (x.data.size < 65536) := Lib.hid (by omega)
  have HSZ64 := Lib.hid hs64
  have HST := Lib.hid (stX_fits hu ⟨hi1, hi2⟩ hs64 HR.out.2.1 HR.out.2.2.1)
  have HU := Lib.hid hu
  rw [hu] at c0
  clear hs64
  go_upto_region 6 with fail
  rw [← HU.out] at c0
  clear hsd hu hi1 hi2
  have hS : wf.drew.cell? ⟨sb, 0, none⟩ = some (.bool x.used) ∧ wf.drew.cell? ⟨sb, 5, none⟩ = some (.bool x.dirty) ∧ wf.drew.cell? ⟨fb, 0, none⟩ = some (.int .i64 x.blk.1) ∧ wf.drew.cell? ⟨fb, 1, none⟩ = some (.int .i64 x.blk.2.1) ∧ wf.drew.cell? ⟨sb, 3, none⟩ = some (.int .i64 x.blk.2.2) ∧ wf.drew.cell? ⟨sb, 4, none⟩ = some (.int .u64 (x.ver : Nat)) ∧ wf.drew.cell? ⟨sb, 6, none⟩ = some (.string x.data) := ⟨c0, c5, cf0, cf1, c3, c4, c6⟩
  clear c0 c5 cf0 cf1 c3 c4 c6
  refine wp_region_x (fun w' => w'.cell? ⟨sb, 0, none⟩ = some (.bool x.used) ∧ w'.cell? ⟨sb, 5, none⟩ = some (.bool x.dirty) ∧ w'.cell? ⟨fb, 0, none⟩ = some (.int .i64 x.blk.1) ∧ w'.cell? ⟨fb, 1, none⟩ = some (.int .i64 x.blk.2.1) ∧ w'.cell? ⟨sb, 3, none⟩ = some (.int .i64 x.blk.2.2) ∧ w'.cell? ⟨sb, 4, none⟩ = some (.int .u64 (x.ver : Nat)) ∧ w'.cell? ⟨sb, 6, none⟩ = some (.string x.data)) [(1, 1), (2, 0), (5, 1), (6, 0), (9, 1), (10, 0), (13, 1), (14, 0), (17, 1), (18, 1), (19, 0), (22, 1), (23, 0), (25, 1), (26, 0), (0, 2), (3, 2), (4, 2), (7, 2), (8, 2), (11, 2), (12, 2), (15, 2), (16, 2), (20, 2), (21, 2), (24, 2), (27, 2), (28, 1)] (by kernel_rfl) (by kernel_rfl) (by intro d v c a w h; cases d <;> exact h) ?_
  iterate 1 (refine x_take rfl (fun K hK => ?_); go_simp; refine hK _ ?_; clear hK K)
  refine x_read rfl hS (fun w' h => exec_load1 ⟨⟨_, Tryz.underlying4, rfl⟩⟩ rfl h.1) ?_
  iterate 1 (refine x_take rfl (fun K hK => ?_); go_simp; refine hK _ ?_; clear hK K)
  refine x_read rfl hS (fun w' h => exec_load1 ⟨⟨_, Tryz.underlying4, rfl⟩⟩ rfl h.2.1) ?_
  iterate 1 (refine x_take rfl (fun K hK => ?_); go_simp; refine hK _ ?_; clear hK K)
  refine x_read rfl hS (fun w' h => exec_load1 ⟨⟨_, Tryz.underlying3, rfl⟩⟩ rfl h.2.2.1) ?_
  iterate 1 (refine x_take rfl (fun K hK => ?_); go_simp; refine hK _ ?_; clear hK K)
  refine x_read rfl hS (fun w' h => exec_load1 ⟨⟨_, Tryz.underlying3, rfl⟩⟩ rfl h.2.2.2.1) ?_
  iterate 2 (refine x_take rfl (fun K hK => ?_); go_simp; refine hK _ ?_; clear hK K)
  refine x_read rfl hS (fun w' h => exec_load1 ⟨⟨_, Tryz.underlying3, rfl⟩⟩ rfl h.2.2.2.2.1) ?_
  iterate 1 (refine x_take rfl (fun K hK => ?_); go_simp; refine hK _ ?_; clear hK K)
  refine x_read rfl hS (fun w' h => exec_load1 ⟨⟨_, Tryz.underlying36, rfl⟩⟩ rfl h.2.2.2.2.2.1) ?_
  iterate 1 (refine x_take rfl (fun K hK => ?_); go_simp; refine hK _ ?_; clear hK K)
  refine x_read rfl hS (fun w' h => exec_load1 ⟨⟨_, Tryz.underlying9, rfl⟩⟩ rfl h.2.2.2.2.2.2) ?_
  have hcel : ∀ (wa wb : World), Below wf.heap.size wa wb → (wa.cell? ⟨sb, 0, none⟩ = some (.bool x.used) ∧ wa.cell? ⟨sb, 5, none⟩ = some (.bool x.dirty) ∧ wa.cell? ⟨fb, 0, none⟩ = some (.int .i64 x.blk.1) ∧ wa.cell? ⟨fb, 1, none⟩ = some (.int .i64 x.blk.2.1) ∧ wa.cell? ⟨sb, 3, none⟩ = some (.int .i64 x.blk.2.2) ∧ wa.cell? ⟨sb, 4, none⟩ = some (.int .u64 (x.ver : Nat)) ∧ wa.cell? ⟨sb, 6, none⟩ = some (.string x.data)) → (wb.cell? ⟨sb, 0, none⟩ = some (.bool x.used) ∧ wb.cell? ⟨sb, 5, none⟩ = some (.bool x.dirty) ∧ wb.cell? ⟨fb, 0, none⟩ = some (.int .i64 x.blk.1) ∧ wb.cell? ⟨fb, 1, none⟩ = some (.int .i64 x.blk.2.1) ∧ wb.cell? ⟨sb, 3, none⟩ = some (.int .i64 x.blk.2.2) ∧ wb.cell? ⟨sb, 4, none⟩ = some (.int .u64 (x.ver : Nat)) ∧ wb.cell? ⟨sb, 6, none⟩ = some (.string x.data)) := fun wa wb hb h =>
    ⟨(hb.cell (p := ⟨sb, _, none⟩) hsb).trans h.1, (hb.cell (p := ⟨sb, _, none⟩) hsb).trans h.2.1, (hb.cell (p := ⟨fb, _, none⟩) hfb).trans h.2.2.1, (hb.cell (p := ⟨fb, _, none⟩) hfb).trans h.2.2.2.1, (hb.cell (p := ⟨sb, _, none⟩) hsb).trans h.2.2.2.2.1, (hb.cell (p := ⟨sb, _, none⟩) hsb).trans h.2.2.2.2.2.1, (hb.cell (p := ⟨sb, _, none⟩) hsb).trans h.2.2.2.2.2.2⟩
  have HCEL := Lib.hid hcel
  clear hcel
  have hB0 : Below wf.heap.size wf wf.drew := (Below.refl _ _).drew
  refine x_show' rfl (fun K hK => ?_)
  go_simp
  refine (bNew_any _).mono ?_
  rintro e w3 ⟨rfl, hW3, hb3⟩
  generalize ha : wf.drew.heap.size = a at *
  have ha2 : wf.heap.size = a := ha
  have hX3 : WrX w3 a (some []) := ⟨_, hW3⟩
  have hl3 : StLe (some []) 0 := fun L e => by cases e; exact Nat.le_refl 0
  have hS3 := HCEL.out _ _ (show Below wf.heap.size wf.drew w3 by rw [ha2]; exact hb3) hS
  have hB3 := hB0.trans (show Below wf.heap.size wf.drew w3 by rw [ha2]; exact hb3)
  refine hK _ _ hS3 ?_
  clear hK K hS hW3 hb3 hB0
  refine x_show' rfl (fun K hK => ?_)
  go_simp
  refine (sbit_any _ x.used).mono ?_
  rintro e wt ⟨rfl, hw⟩
  obtain rfl := hw.symm
  refine hK _ _ hS3 ?_
  clear hK K hw
  refine x_show' rfl (fun K hK => ?_)
  go_simp
  have hl4 := StLe.put hl3 (x.used.toNat) 1
  refine (put_x hX3 (x.used.toNat) 1 (fun L e => by have := hl3 L e; omega) (by decide) (by cases x.used <;> decide)).mono ?_
  rintro e w4 ⟨rfl, hX4, hb4⟩
  have hS4 := HCEL.out _ _ (show Below wf.heap.size w3 w4 by rw [ha2]; exact hb4) hS3
  have hB4 := hB3.trans (show Below wf.heap.size w3 w4 by rw [ha2]; exact hb4)
  refine hK _ _ hS4 ?_
  clear hK K hX3 hb4 hS3 hB3
  refine x_show' rfl (fun K hK => ?_)
  go_simp
  refine (sbit_any _ x.dirty).mono ?_
  rintro e wt ⟨rfl, hw⟩
  obtain rfl := hw.symm
  refine hK _ _ hS4 ?_
  clear hK K hw
  refine x_show' rfl (fun K hK => ?_)
  go_simp
  have hl5 := StLe.put hl4 (x.dirty.toNat) 1
  refine (put_x hX4 (x.dirty.toNat) 1 (fun L e => by have := hl4 L e; omega) (by decide) (by cases x.dirty <;> decide)).mono ?_
  rintro e w5 ⟨rfl, hX5, hb5⟩
  have hS5 := HCEL.out _ _ (show Below wf.heap.size w4 w5 by rw [ha2]; exact hb5) hS4
  have hB5 := hB4.trans (show Below wf.heap.size w4 w5 by rw [ha2]; exact hb5)
  refine hK _ _ hS5 ?_
  clear hK K hX4 hb5 hS4 hB4
  refine x_show' rfl (fun K hK => ?_)
  go_simp
  refine (swide_any _ x.blk.1 (by exact HR.out.1)).mono ?_
  rintro e wt ⟨rfl, hw⟩
  obtain rfl := hw.symm
  refine hK _ _ hS5 ?_
  clear hK K hw
  refine x_show' rfl (fun K hK => ?_)
  go_simp
  have hl6 := StLe.put hl5 (wideN x.blk.1) 6
  refine (put_x hX5 (wideN x.blk.1) 6 (fun L e => by have := hl5 L e; omega) (by decide) (wideN_lt _)).mono ?_
  rintro e w6 ⟨rfl, hX6, hb6⟩
  have hS6 := HCEL.out _ _ (show Below wf.heap.size w5 w6 by rw [ha2]; exact hb6) hS5
  have hB6 := hB5.trans (show Below wf.heap.size w5 w6 by rw [ha2]; exact hb6)
  refine hK _ _ hS6 ?_
  clear hK K hX5 hb6 hS5 hB5
  refine x_show' rfl (fun K hK => ?_)
  go_simp
  refine (swide_any _ x.blk.2.1 (by exact HR.out.2.1)).mono ?_
  rintro e wt ⟨rfl, hw⟩
  obtain rfl := hw.symm
  refine hK _ _ hS6 ?_
  clear hK K hw
  refine x_show' rfl (fun K hK => ?_)
  go_simp
  have hl7 := StLe.put hl6 (wideN x.blk.2.1) 31
  refine (put_x hX6 (wideN x.blk.2.1) 31 (fun L e => by have := hl6 L e; omega) (by decide) (wideN_lt _)).mono ?_
  rintro e w7 ⟨rfl, hX7, hb7⟩
  have hS7 := HCEL.out _ _ (show Below wf.heap.size w6 w7 by rw [ha2]; exact hb7) hS6
  have hB7 := hB6.trans (show Below wf.heap.size w6 w7 by rw [ha2]; exact hb7)
  refine hK _ _ hS7 ?_
  clear hK K hX6 hb7 hS6 hB6
  refine x_show' rfl (fun K hK => ?_)
  go_simp
  refine (swide_any _ x.blk.2.2 (by exact HR.out.2.2.1)).mono ?_
  rintro e wt ⟨rfl, hw⟩
  obtain rfl := hw.symm
  refine hK _ _ hS7 ?_
  clear hK K hw
  refine x_show' rfl (fun K hK => ?_)
  go_simp
  have hl8 := StLe.put hl7 (wideN x.blk.2.2) 3
  refine (put_x hX7 (wideN x.blk.2.2) 3 (fun L e => by have := hl7 L e; omega) (by decide) (wideN_lt _)).mono ?_
  rintro e w8 ⟨rfl, hX8, hb8⟩
  have hS8 := HCEL.out _ _ (show Below wf.heap.size w7 w8 by rw [ha2]; exact hb8) hS7
  have hB8 := hB7.trans (show Below wf.heap.size w7 w8 by rw [ha2]; exact hb8)
  refine hK _ _ hS8 ?_
  clear hK K hX7 hb8 hS7 hB7
  refine x_show' rfl (fun K hK => ?_)
  go_simp
  have hl9 := StLe.put hl8 (x.ver) 40
  refine (put_x hX8 (x.ver) 40 (fun L e => by have := hl8 L e; omega) (by decide) (HR.out.2.2.2)).mono ?_
  rintro e w9 ⟨rfl, hX9, hb9⟩
  have hS9 := HCEL.out _ _ (show Below wf.heap.size w8 w9 by rw [ha2]; exact hb9) hS8
  have hB9 := hB8.trans (show Below wf.heap.size w8 w9 by rw [ha2]; exact hb9)
  refine hK _ _ hS9 ?_
  clear hK K hX8 hb9 hS8 hB8
  refine x_show' rfl (fun K hK => ?_)
  go_simp
  refine (text_x hX9 x.data HSZ.out (fun L e => by have := hl9 L e; have := HSZ64.out; omega)).mono ?_
  rintro e w10 ⟨rfl, hX10, hb10⟩
  have hS10 := HCEL.out _ _ (show Below wf.heap.size w9 w10 by rw [ha2]; exact hb10) hS9
  have hB10 := hB9.trans (show Below wf.heap.size w9 w10 by rw [ha2]; exact hb10)
  refine hK _ _ hS10 ?_
  clear hK K hX9 hb10 hS9 hB9
  iterate 1 (refine x_take rfl (fun K hK => ?_); go_simp; refine hK _ ?_; clear hK K)
  refine x_nil ?_
  have HX := Lib.hid hX10
  have HBX := Lib.hid (HBF.out.trans (hB10.mono HBF.out.size))
  clear hS10 hX10 hB10 hl9
  have e1 : (putX (putX (putX (putX (putX (putX (some []) x.used.toNat 1) x.dirty.toNat 1) (wideN x.blk.1) 6) (wideN x.blk.2.1) 31) (wideN x.blk.2.2) 3) x.ver 40).map (· ++ txBits x.data) = stX x := rfl
  have hX := HX.out
  unfold textX at hX
  rw [e1, HST.out] at hX
  clear e1 HX
  by_cases hf : x.fits
  · rw [if_pos hf] at hX
    have hbl := Slt.bits_len (.inr hf)
    have hdn := done_any _ a _ x.bits hX.choose_spec (by omega)
    have HBLW := HBX.out.size
    clear hX
    go_wp2_with fail
    refine hdn.mono ?_
    rintro e w8 ⟨v8, rfl, hO8, hb8⟩
    obtain ⟨a8, n8, c8, rfl⟩ := hO8.shape
    obtain ⟨_, _, hv8, _⟩ := hO8.sl el8.len
    have hn8 : n8 = (pack x.bits).length := by
      simp at hv8
      omega
    subst hn8
    have hO8' := hO8.mono HBLW
    have hpk : (pack x.bits).length ≤ 128 := by rw [pack_len]; omega
    have hsub : (128 : Int) - (((pack x.bits).length : Nat) : Int) = ((128 - (pack x.bits).length : Nat) : Int) := by omega
    have hpl1 : (pack x.bits).length + (128 - (pack x.bits).length) ≤ 100000 := by omega
    have hpk' : (((pack x.bits).length : Nat) : Int) ≤ 128 := by omega
    have HB8 := Lib.hid (HBX.out.trans (hb8.mono HBLW))
    clear hO8 hv8 hb8 hdn hbl
    go_wp2_with (first
      | ((with_reducible refine wpList_appendZ el8 Tryz.underlying3 0 en8_0 zero8 hO8' (128 - (pack x.bits).length) hpl1 ?_ ?_ ?_); rfl; (first | rfl | exact congrArg (Value.int .i64) hsub); (intro v9 w9 hO9 hb9; have HO9 := Lib.hid hO9; have HB9 := Lib.hid (HB8.out.trans hb9); clear hO9 hb9); go_frame)
      | fail)
    go_ret2
    unfold SEnc
    rw [if_pos (.inr hf)]
    exact ⟨⟨_, rfl, HO9.out⟩, HB9.out⟩
  · rw [if_neg hf] at hX
    have hnis : ¬ x.is := fun h => h.elim HNO.out hf
    have hdn := done_x (st := none) hX (fun L e => by cases e)
    have HX := Lib.hid hX
    clear hX
    go_wp2_with fail
    refine hdn.mono ?_
    rintro e w8 (⟨L, v', h, -⟩ | ⟨-, rfl, hb8⟩)
    · cases h
    have HB8 := Lib.hid (HBX.out.trans (hb8.mono HBX.out.size))
    clear hdn hb8
    go_wp2
    go_ret2
    unfold SEnc
    rw [if_neg hnis]
    exact ⟨rfl, HB8.out⟩
end Go.Proofs.YtldimgchpgoggaaGreat
