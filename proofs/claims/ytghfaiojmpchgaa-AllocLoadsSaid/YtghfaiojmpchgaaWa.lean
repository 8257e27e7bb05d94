/- The map of homes in memory, and walks of its smallest functions. -/
import Derived.Test.YtghfaiojmpchgaaRows
import Derived.Test.YtghfaiojmpchgaaOrd
import Derived.Test.YtghfaiojmpchgaaPop
import Derived.BigQuiet
namespace Go.Proofs.Ytghfaiojmpchgaa
open Go.RowKit Go.Tn Go.Tn.Bits

/-- Word k of the homes. -/
def wd (T : Nat → Bool) (k : Nat) : Nat := num (fun j => T (64 * k + j)) 64
theorem wd_lt (T : Nat → Bool) (k : Nat) : wd T k < 18446744073709551616 := num_lt _ 64
def mapCells (n : Nat) (T : Nat → Bool) : Array Value := (Value.int .i64 n :: (List.range 16).map fun k => Value.int .u64 (wd T k)).toArray
theorem mapCells_0 (n : Nat) (T : Nat → Bool) : (mapCells n T)[0]? = some (.int .i64 n) := rfl
theorem mapCells_w (n : Nat) (T : Nat → Bool) {k : Nat} (h : k < 16) : (mapCells n T)[1 + k]? = some (.int .u64 (wd T k)) := by
  simp [mapCells, Nat.add_comm 1 k, h]
theorem mapCells_size (n : Nat) (T : Nat → Bool) : (mapCells n T).size = 17 := by simp [mapCells]
theorem mapCells_set (n : Nat) (T T' : Nat → Bool) {k : Nat} (h : k < 16) (hT : ∀ j, j < 16 → j ≠ k → wd T' j = wd T j) : (mapCells n T).setIfInBounds (1 + k) (.int .u64 (wd T' k)) = mapCells n T' := by
  apply Array.ext'
  apply List.ext_getElem?
  intro i
  simp only [mapCells, Array.toList_setIfInBounds]
  rw [List.getElem?_set]
  cases i with
  | zero => simp
  | succ i =>
    by_cases hi : i < 16
    · by_cases hk : i = k
      · subst hk; simp [Nat.add_comm 1, hi]
      · have : 1 + k ≠ i + 1 := by omega
        simp [this, hi, hT i hi hk]
    · have : 1 + k ≠ i + 1 := by omega
      simp [this, hi]

/-- A map of n homes at block b: T tells which are taken. -/
structure MapAt (w : World) (b n : Nat) (T : Nat → Bool) : Prop where
  blk : w.heap[b]? = some (.cells (mapCells n T) 53 (0, 0))
  pos : 1 ≤ n
  le : n ≤ 1024
  out : ∀ i, n ≤ i → T i = false

theorem MapAt.n_ {w : World} {b n : Nat} {T : Nat → Bool} (h : MapAt w b n T) : w.cell? ⟨b, 0, none⟩ = some (.int .i64 n) := cell_of h.blk (mapCells_0 n T)
theorem MapAt.w_ {w : World} {b n : Nat} {T : Nat → Bool} (h : MapAt w b n T) {k : Nat} (hk : k < 16) : w.cell? ⟨b, 1 + k, none⟩ = some (.int .u64 (wd T k)) := cell_of h.blk (mapCells_w n T hk)
theorem MapAt.free {w : World} {b n : Nat} {T : Nat → Bool} (h : MapAt w b n T) {o : Nat} : w.frozen? ⟨b, o, none⟩ = false := free_of h.blk
theorem MapAt.below {w w' : World} {b n : Nat} {T : Nat → Bool} {B : Nat} (h : MapAt w b n T) (hb : Below B w w') (hB : b < B) : MapAt w' b n T := ⟨(hb.block b hB).trans h.blk, h.pos, h.le, h.out⟩
theorem MapAt.mod {w w' : World} {b n : Nat} {T : Nat → Bool} {S : Nat → Prop} (h : MapAt w b n T) (hm : Mod S w w') (hS : ¬ S b) : MapAt w' b n T := ⟨hm.heap h.blk hS, h.pos, h.le, h.out⟩

theorem ok_any (w : World) (b n : Nat) (T : Nat → Bool) (h : MapAt w b n T) : Calls Try.prog 29 #[.pointer (some ⟨b, 0, none⟩)] w fun e w' => e = .returned (.bool true) ∧ w' = w := by
  have c := h.n_
  have hp : 0 < n := h.pos
  go_enter Try.func29, Try.ntmps29
  go_wp2
  go_ret
  exact ⟨rfl, rfl⟩

theorem pow_wrap (k : Nat) (h : k < 64) : IntKind.u64.wrap ((2 : Int) ^ k) = ((2 ^ k : Nat) : Int) := by
  have h2 : 2 ^ k < 18446744073709551616 := Nat.pow_lt_pow_right (by decide) h
  rw [show (2 : Int) ^ k = ((2 ^ k : Nat) : Int) by rw [Int.natCast_pow]; rfl]
  exact wrap_u64 _ h2

theorem bit_any (w : World) (i : Nat) : Calls Try.prog 32 #[.int .i64 i] w fun e w' => e = .returned (.int .u64 ((2 ^ (63 - i % 64) : Nat) : Int)) ∧ w' = w := by
  have hp := pow_wrap (63 - i % 64) (by omega)
  go_enter Try.func32, Try.ntmps32
  go_wp2
  go_ret
  exact ⟨by rw [← hp]; rfl, rfl⟩

theorem MapAt.drewN {w : World} {b n : Nat} {T : Nat → Bool} (h : MapAt w b n T) (k : Nat) : MapAt (w.drewN k) b n T := ⟨h.blk, h.pos, h.le, h.out⟩
theorem MapAt.drew {w : World} {b n : Nat} {T : Nat → Bool} (h : MapAt w b n T) : MapAt w.drew b n T := ⟨h.blk, h.pos, h.le, h.out⟩

theorem in_yes (w : World) (b n : Nat) (T : Nat → Bool) (h : MapAt w b n T) (i : Nat) (hi : i < n) : Calls Try.prog 33 #[.pointer (some ⟨b, 0, none⟩), .int .i64 i] w fun e w' => e = .returned (.bool true) ∧ w' = w := by
  have c := h.n_
  go_enter Try.func33, Try.ntmps33
  go_wp2_with (go_at_call 29; refine (ok_any w b n T h).mono ?_; rintro e w ⟨rfl, rfl⟩)
  go_ret
  first | exact ⟨rfl, rfl⟩ | exact ⟨congrArg (fun x => Ending.returned (.bool x)) (decide_eq_true (by omega)), rfl⟩

theorem in_no (w : World) (b n : Nat) (T : Nat → Bool) (h : MapAt w b n T) (i : Int) (hi : ¬ (0 ≤ i ∧ i < n)) : Calls Try.prog 33 #[.pointer (some ⟨b, 0, none⟩), .int .i64 i] w fun e w' => e = .returned (.bool false) ∧ w' = w := by
  have c := h.n_
  by_cases h0 : 0 ≤ i
  · have h1 : ¬ (i < n) := fun h => hi ⟨h0, h⟩
    clear hi
    go_enter Try.func33, Try.ntmps33
    go_wp2_with (go_at_call 29; refine (ok_any w b n T h).mono ?_; rintro e w ⟨rfl, rfl⟩)
    go_ret
    exact ⟨congrArg (fun x => Ending.returned (.bool x)) (decide_eq_false (by omega)), rfl⟩
  · have h0' : i < 0 := by omega
    go_enter Try.func33, Try.ntmps33
    go_wp2_with (go_at_call 29; refine (ok_any w b n T h).mono ?_; rintro e w ⟨rfl, rfl⟩)
    go_ret
    exact ⟨rfl, rfl⟩

theorem has_word (T : Nat → Bool) (i : Nat) : bits .and .u64 (wd T (i / 64) : Int) ((2 ^ (63 - i % 64) : Nat) : Int) = if T i then ((2 ^ (63 - i % 64) : Nat) : Int) else 0 := by
  have hp : 2 ^ (63 - i % 64) < 18446744073709551616 := Nat.pow_lt_pow_right (show 1 < 2 by decide) (show 63 - i % 64 < 64 by omega)
  rw [bits_and _ _ (wd_lt T _) hp]
  have := num_and (fun j => T (64 * (i / 64) + j)) (m := 64) (i := i % 64) (by omega)
  have e : 64 * (i / 64) + i % 64 = i := by omega
  simp only [e] at this
  unfold wd
  rw [show 63 - i % 64 = 64 - 1 - i % 64 by omega, this]
  split <;> simp

theorem has_yes (w : World) (b n : Nat) (T : Nat → Bool) (h : MapAt w b n T) (i : Nat) (hi : i < n) : Calls Try.prog 20 #[.pointer (some ⟨b, 0, none⟩), .int .i64 i] w fun e w' => e = .returned (.bool (T i)) ∧ ∃ k, w' = w.drewN k := by
  have hw := has_word T i
  have hbit := fun w => bit_any w i
  have hpos : 0 < 2 ^ (63 - i % 64) := Nat.pow_pos (by decide)
  have c := h.w_ (k := i / 64) (by have := h.le; omega)
  have hidx : (i : Int) / 64 < 16 := by have := h.le; omega
  generalize 2 ^ (63 - i % 64) = p at *
  generalize wd T (i / 64) = x at *
  cases hT : T i
  · rw [hT] at hw
    simp only [Bool.false_eq_true, if_false] at hw
    have HT := Lib.hid hT
    clear hT
    go_enter Try.func20, Try.ntmps20
    go_wp2
    go_quiet (first
      | (go_at_call 33; refine Calls.quiet_of_same (in_yes _ b n T (h.drewN _) i hi))
      | (go_at_call 32; refine Calls.quiet_of_same (hbit _)))
    go_wp2
    go_ret
    exact ⟨rfl, nq, rfl⟩
  · rw [hT] at hw
    simp only [if_true] at hw
    have HT := Lib.hid hT
    have hne : ((p : Int) != 0) = true := by simp; omega
    clear hT
    go_enter Try.func20, Try.ntmps20
    go_wp2
    go_quiet (first
      | (go_at_call 33; refine Calls.quiet_of_same (in_yes _ b n T (h.drewN _) i hi))
      | (go_at_call 32; refine Calls.quiet_of_same (hbit _)))
    go_wp2
    go_ret
    exact ⟨rfl, nq, rfl⟩

theorem has_no (w : World) (b n : Nat) (T : Nat → Bool) (h : MapAt w b n T) (i : Int) (hi : ¬ (0 ≤ i ∧ i < n)) : Calls Try.prog 20 #[.pointer (some ⟨b, 0, none⟩), .int .i64 i] w fun e w' => e = .returned (.bool false) ∧ ∃ k, w' = w.drewN k := by
  go_enter Try.func20, Try.ntmps20
  go_wp2
  go_quiet (first | (go_at_call 33; refine Calls.quiet_of_same (in_no _ b n T (h.drewN _) i hi)))
  go_wp2
  go_ret
  exact ⟨rfl, nq, rfl⟩

theorem cell_set {w : World} {b n : Nat} {T T' : Nat → Bool} (h : MapAt w b n T) {k : Nat} (hk : k < 16) (hT : ∀ j, j < 16 → j ≠ k → wd T' j = wd T j) (ho : ∀ i, n ≤ i → T' i = false) :
    MapAt (w.setCell ⟨b, 1 + k, none⟩ (.int .u64 (wd T' k))) b n T' :=
  ⟨by rw [heap_setCell_at h.blk, mapCells_set n T T' hk hT], h.pos, h.le, ho⟩
theorem wd_other (T : Nat → Bool) (i : Nat) (v : Bool) {j : Nat} (h : j ≠ i / 64) : wd (setB T i v) j = wd T j :=
  num_congr fun l hl => setB_ne T v (by omega)
theorem wd_or (T : Nat → Bool) (i : Nat) : bits .or .u64 (wd T (i / 64) : Int) ((2 ^ (63 - i % 64) : Nat) : Int) = (wd (setB T i true) (i / 64) : Int) := by
  have hp : 2 ^ (63 - i % 64) < 18446744073709551616 := Nat.pow_lt_pow_right (show 1 < 2 by decide) (show 63 - i % 64 < 64 by omega)
  rw [bits_or _ _ (wd_lt T _) hp]
  have := num_or (fun j => T (64 * (i / 64) + j)) (m := 64) (i := i % 64) (by omega)
  unfold wd
  rw [show 63 - i % 64 = 64 - 1 - i % 64 by omega, this]
  refine congrArg (fun x : Nat => (x : Int)) (num_congr fun l hl => ?_)
  unfold setB
  have : (l = i % 64) ↔ (64 * (i / 64) + l = i) := by omega
  simp only [this]
theorem wd_xor (T : Nat → Bool) (i : Nat) : bits .xor .u64 (wd T (i / 64) : Int) ((2 ^ (63 - i % 64) : Nat) : Int) = (wd (setB T i (!T i)) (i / 64) : Int) := by
  have hp : 2 ^ (63 - i % 64) < 18446744073709551616 := Nat.pow_lt_pow_right (show 1 < 2 by decide) (show 63 - i % 64 < 64 by omega)
  rw [bits_xor _ _ (wd_lt T _) hp]
  have := num_xor (fun j => T (64 * (i / 64) + j)) (m := 64) (i := i % 64) (by omega)
  unfold wd
  rw [show 63 - i % 64 = 64 - 1 - i % 64 by omega, this]
  refine congrArg (fun x : Nat => (x : Int)) (num_congr fun l hl => ?_)
  unfold setB
  have : (l = i % 64) ↔ (64 * (i / 64) + l = i) := by omega
  have e : 64 * (i / 64) + i % 64 = i := by omega
  simp only [this, e]

end Go.Proofs.Ytghfaiojmpchgaa
