/- A new disk's log, in plain words. -/
import Derived.Test.YtipbaajdnnddgaaGreatMgVlj24
import Derived.Test.YtipbaajdnnddgaaGreatMgVlj7
import Derived.Deep.Cut
import Derived.Deep.CutBlock
import Derived.Maps.RangeWalk
import Derived.Test.YtipbaajdnnddgaaGreatMgVlj5
import Derived.Test.YtipbaajdnnddgaaGreatMgVlj6
import Derived.Test.YtipbaajdnnddgaaGreatMgVlj21
/- Hold, Give. -/
namespace Go.Proofs.YtipbaajdnnddgaaGreat.Al
open Go.RowKit Go.Tn Go.Tn.Bits
set_option maxRecDepth 20000

theorem size64 : (Tryz.prog.info? 30).map (·.size) = some 1 := by kernel_rfl
theorem scalar64 : ScalarT Tryz.prog 30 := ⟨⟨_, Tryz.underlying30, rfl⟩⟩

/-- A home is turned. -/
theorem turn_yes (w : World) (b n : Nat) (T : Nat → Bool) (hM : MapAt w b n T) (i : Nat) (hi : i < n) (wrong : Int) : Calls Tryz.prog 71 #[.pointer (some ⟨b, 0, none⟩), .int .i64 i, .bool (T i), .int .i64 wrong] w
    fun e w' => e = .returned (.int .i64 0) ∧ MapAt w' b n (setB T i (!T i)) ∧ Mod (fun x => x = b) w w' := by
  have hbit := fun w => bit_any w i
  have c := hM.w_ (k := i / 64) (by have := hM.le; omega)
  have hidx : (i : Int) / 64 < 16 := by have := hM.le; omega
  have hx := wd_xor T i
  have hq : IntKind.i64.wrap ((i : Int) / 64) = (i : Int) / 64 := by simp [IntKind.wrap, IntKind.bits, IntKind.signed]; omega
  have hq0 : (0 : Int) ≤ (i : Int) / 64 := by omega
  have hqn : ((i : Int) / 64).toNat = i / 64 := by omega
  have hset : ∀ w, MapAt w b n T → MapAt (w.setCell ⟨b, 1 + i / 64, none⟩ (.int .u64 (wd (setB T i (!T i)) (i / 64)))) b n (setB T i (!T i)) := fun w hw => cell_set hw (by have := hM.le; omega) (fun j _ hj => wd_other T i _ hj) (fun j hj => by rw [setB_ne T _ (by omega)]; exact hM.out j hj)
  have HS := Lib.hid hset
  clear hset
  generalize 2 ^ (63 - i % 64) = p at *
  generalize wd T (i / 64) = x at *
  generalize wd (setB T i (!T i)) (i / 64) = y at *
  cases hT : T i
  case' false => skip
  case' true => skip
  all_goals
    have hH := has_yes w b n T hM i hi
    rw [hT] at hH
    go_enter Tryz.func71, Tryz.ntmps71
    go_wp2_with (first
      | (go_at_call 91; refine (ok_any _ b n T hM).mono ?_; rintro e w ⟨rfl, rfl⟩)
      | (go_at_call 92; refine (in_yes _ b n T hM i hi).mono ?_; rintro e w ⟨rfl, rfl⟩)
      | (go_at_call 93; refine hH.mono ?_; rintro e w2 ⟨rfl, nd, rfl⟩))
    refine wp_region_x (fun w' => w'.cell? ⟨b, 1 + i / 64, none⟩ = some (.int .u64 x)) [(0, 1), (1, 1), (2, 1), (3, 1), (4, 1), (5, 1), (6, 0), (7, 1), (10, 1), (11, 1), (8, 2), (9, 1), (12, 1), (13, 3)] (by kernel_rfl) (by kernel_rfl) (by intro d v c a w h; cases d <;> exact h) ?_
    iterate 6 (refine x_take rfl (fun K hK => ?_); go_simp; refine hK _ ?_; clear hK K)
    refine x_read rfl c (fun w' h => exec_load1 scalar64 rfl h) ?_
    iterate 3 (refine x_take rfl (fun K hK => ?_); go_simp; refine hK _ ?_; clear hK K)
    refine x_show' rfl (fun K hK => ?_)
    go_simp
    refine (hbit _).mono ?_
    rintro e w3 ⟨rfl, hw3⟩
    obtain rfl := hw3.symm
    clear hw3
    refine hK _ _ c ?_
    clear hK K
    iterate 2 (refine x_take rfl (fun K hK => ?_); go_simp; refine hK _ ?_; clear hK K)
    refine x_skip rfl (exec_store1 scalar64 size64 rfl rfl rfl c hM.free) ?_
    refine x_nil ?_
    go_wp2
    go_ret
    have hS := HS.out _ (hM.drewN nd).drew
    rw [hT] at hS
    exact ⟨rfl, hS, ((Mod.refl _ w).drewN (nd + 1)).setCell _ _ (fun _ => rfl)⟩

/-- A home is not turned. -/
theorem turn_wrong (w : World) (b n : Nat) (T : Nat → Bool) (hM : MapAt w b n T) (i : Nat) (hi : i < n) (wrong : Int) : Calls Tryz.prog 71 #[.pointer (some ⟨b, 0, none⟩), .int .i64 i, .bool (!T i), .int .i64 wrong] w
    fun e w' => e = .returned (.int .i64 wrong) ∧ ∃ k, w' = w.drewN k := by
  cases hT : T i
  case' false => skip
  case' true => skip
  all_goals
    have hH := has_yes w b n T hM i hi
    rw [hT] at hH
    go_enter Tryz.func71, Tryz.ntmps71
    go_wp2_with (first
      | (go_at_call 91; refine (ok_any _ b n T hM).mono ?_; rintro e w ⟨rfl, rfl⟩)
      | (go_at_call 92; refine (in_yes _ b n T hM i hi).mono ?_; rintro e w ⟨rfl, rfl⟩)
      | (go_at_call 93; refine hH.mono ?_; rintro e w2 ⟨rfl, nd, rfl⟩))
    go_ret
    exact ⟨rfl, nd, rfl⟩

theorem turn_out (w : World) (b n : Nat) (T : Nat → Bool) (hM : MapAt w b n T) (i : Int) (hi : ¬ (0 ≤ i ∧ i < n)) (is : Bool) (wrong : Int) : Calls Tryz.prog 71 #[.pointer (some ⟨b, 0, none⟩), .int .i64 i, .bool is, .int .i64 wrong] w
    fun e w' => e = .returned (.int .i64 2) ∧ w' = w := by
  go_enter Tryz.func71, Tryz.ntmps71
  go_wp2_with (first
    | (go_at_call 91; refine (ok_any _ b n T hM).mono ?_; rintro e w ⟨rfl, rfl⟩)
    | (go_at_call 92; refine (in_no _ b n T hM i hi).mono ?_; rintro e w ⟨rfl, rfl⟩))
  go_ret
  exact ⟨rfl, rfl⟩

/-- What Hold answers, and what it leaves. -/
def holdA (n : Nat) (T : Nat → Bool) (i : Int) : Int := if 0 ≤ i ∧ i < n then (if T i.toNat then 10 else 0) else 2
def holdT (n : Nat) (T : Nat → Bool) (i : Int) : Nat → Bool := if 0 ≤ i ∧ i < n then setB T i.toNat true else T
def giveA (n : Nat) (T : Nat → Bool) (i : Int) : Int := if 0 ≤ i ∧ i < n then (if T i.toNat then 0 else 11) else 2
def giveT (n : Nat) (T : Nat → Bool) (i : Int) : Nat → Bool := if 0 ≤ i ∧ i < n then setB T i.toNat false else T

theorem hold_any (w : World) (b n : Nat) (T : Nat → Bool) (hM : MapAt w b n T) (i : Int) : Calls Tryz.prog 48 #[.pointer (some ⟨b, 0, none⟩), .int .i64 i] w
    fun e w' => e = .returned (.int .i64 (holdA n T i)) ∧ MapAt w' b n (holdT n T i) ∧ Mod (fun x => x = b) w w' := by
  by_cases hi : 0 ≤ i ∧ i < n
  · unfold holdA holdT
    rw [if_pos hi, if_pos hi]
    obtain ⟨k, rfl⟩ := Int.eq_ofNat_of_zero_le hi.1
    have hk : k < n := by omega
    rw [Int.toNat_natCast]
    cases hT : T k
    · have hY := turn_yes w b n T hM k hk 10
      rw [hT] at hY
      go_enter Tryz.func48, Tryz.ntmps48
      go_wp2_with fail
      refine hY.mono ?_
      rintro e w2 ⟨rfl, h2, m2⟩
      go_wp2
      go_ret
      exact ⟨rfl, h2, m2⟩
    · have hY := turn_wrong w b n T hM k hk 10
      rw [hT] at hY
      have HS := Lib.hid (show setB T k true = T by rw [← hT, setB_self])
      go_enter Tryz.func48, Tryz.ntmps48
      go_wp2_with fail
      refine hY.mono ?_
      rintro e w2 ⟨rfl, nd, rfl⟩
      go_wp2
      go_ret
      exact ⟨rfl, by rw [HS.out]; exact hM.drewN nd, (Mod.refl _ w).drewN _⟩
  · unfold holdA holdT
    rw [if_neg hi, if_neg hi]
    have hY := turn_out w b n T hM i hi false 10
    go_enter Tryz.func48, Tryz.ntmps48
    go_wp2_with fail
    refine hY.mono ?_
    rintro e w ⟨rfl, rfl⟩
    go_wp2
    go_ret
    exact ⟨rfl, hM, Mod.refl _ _⟩
end Go.Proofs.YtipbaajdnnddgaaGreat.Al

/- New. -/
namespace Go.Proofs.YtipbaajdnnddgaaGreat.Al
open Go.RowKit Go.Tn Go.Tn.Bits
set_option maxRecDepth 20000
def wordsArr (T : Nat → Bool) : Array Value := ((List.range 16).map fun k => Value.int .u64 (wd T k)).toArray
theorem wordsArr_size (T : Nat → Bool) : (wordsArr T).size = 16 := by simp [wordsArr]
theorem wordsArr_get (T : Nat → Bool) {k : Nat} (h : k < 16) : (wordsArr T)[k]? = some (.int .u64 (wd T k)) := by simp [wordsArr, h]
theorem MapAt.lies {w : World} {b n : Nat} {T : Nat → Bool} (h : MapAt w b n T) : Lies w b 1 (wordsArr T) := by
  intro j hj
  have hj' : j < 16 := by rw [wordsArr_size] at hj; exact hj
  rw [h.w_ hj']
  have := wordsArr_get T hj'
  rw [Array.getElem?_eq_getElem hj] at this
  exact this.symm
theorem MapAt.all {w : World} {b n : Nat} {T : Nat → Bool} (h : MapAt w b n T) : Lies w b 0 (mapCells n T) := lies_of h.blk
theorem aggWords (T : Nat → Bool) : AggT Tryz.prog 147 (wordsArr T).size := ⟨⟨_, Tryz.underlying147, rfl⟩, by rw [wordsArr_size]; kernel_rfl⟩
theorem aggMap (n : Nat) (T : Nat → Bool) : AggT Tryz.prog 149 (mapCells n T).size := ⟨⟨_, Tryz.underlying149, rfl⟩, by rw [mapCells_size]; kernel_rfl⟩

theorem new_cells (n : Nat) : Tryz.prog.built 149 [(0, .int .i64 n)] = some (mapCells n (fun _ => false)) := by kernel_rfl

theorem new_any (w : World) (n : Nat) (h1 : 1 ≤ n) (h2 : n ≤ 1024) : Calls Tryz.prog 46 #[.int .i64 n] w
    fun e w' => e = .returned (.tuple #[.pointer (some ⟨w.heap.size, 0, none⟩), .int .i64 0]) ∧ w' = w.alloc (.cells (mapCells n (fun _ => false)) 149) := by
  go_enter Tryz.func46, Tryz.ntmps46
  go_wp2_with (first
    | ((with_reducible refine wpList_exec rfl (exec_buildA (vals := [(0, .int .i64 n)]) ?_ (new_cells n)) ?_); rfl; go_frame)
    | fail)
  go_ret2
  exact ⟨rfl, rfl⟩
theorem new_no (w : World) (n : Int) (h : ¬ (1 ≤ n ∧ n ≤ 1024)) : Calls Tryz.prog 46 #[.int .i64 n] w
    fun e w' => e = .returned (.tuple #[.pointer none, .int .i64 2]) ∧ w' = w := by
  by_cases h1 : n < 1
  · go_enter Tryz.func46, Tryz.ntmps46
    go_wp2
    go_ret2
    exact ⟨rfl, rfl⟩
  · have h2 : 1024 < n := by omega
    go_enter Tryz.func46, Tryz.ntmps46
    go_wp2
    go_ret2
    exact ⟨rfl, rfl⟩
theorem MapAt.new {w : World} {n : Nat} (h1 : 1 ≤ n) (h2 : n ≤ 1024) : MapAt (w.alloc (.cells (mapCells n (fun _ => false)) 149)) w.heap.size n (fun _ => false) :=
  ⟨heap_alloc_at, h1, h2, fun _ _ => rfl⟩

theorem mapCells_one (n : Nat) (T : Nat → Bool) : (mapCells n T).all (·.oneCell') = true := by
  rw [Array.all_eq_true']
  intro x hx
  simp [mapCells] at hx
  rcases hx with rfl | ⟨k, _, rfl⟩ <;> rfl


theorem MapAt.lt {w : World} {b n : Nat} {T : Nat → Bool} (h : MapAt w b n T) : b < w.heap.size := lt_of_block h.blk
end Go.Proofs.YtipbaajdnnddgaaGreat.Al

/- Bytes. -/
namespace Go.Proofs.YtipbaajdnnddgaaGreat.Al
open Go.RowKit Go.Tn Go.Tn.Bits
set_option maxRecDepth 20000

/-- Byte i of the homes. -/
def by8 (T : Nat → Bool) (i : Nat) : Nat := num (fun j => T (8 * i + j)) 8
theorem by8_lt (T : Nat → Bool) (i : Nat) : by8 T i < 256 := num_lt _ 8
theorem by8_word (T : Nat → Bool) (i : Nat) : wd T (i / 8) / 2 ^ (56 - 8 * (i % 8)) % 256 = by8 T i := by
  unfold wd by8
  have h := num_add (fun j => T (64 * (i / 8) + j)) (8 * (i % 8) + 8) (56 - 8 * (i % 8))
  rw [show 8 * (i % 8) + 8 + (56 - 8 * (i % 8)) = 64 by omega] at h
  have hlt := num_lt (fun j => T (64 * (i / 8) + (8 * (i % 8) + 8 + j))) (56 - 8 * (i % 8))
  have hpos : 0 < 2 ^ (56 - 8 * (i % 8)) := Nat.pow_pos (by decide)
  have h8 := num_add (fun j => T (64 * (i / 8) + j)) (8 * (i % 8)) 8
  have e : num (fun j => T (64 * (i / 8) + (8 * (i % 8) + j))) 8 = num (fun j => T (8 * i + j)) 8 := num_congr fun j hj => by
    rw [show 64 * (i / 8) + (8 * (i % 8) + j) = 8 * i + j by omega]
  have hb := num_lt (fun j => T (8 * i + j)) 8
  rw [h, Nat.add_comm, Nat.add_mul_div_right _ _ hpos, Nat.div_eq_of_lt hlt, Nat.zero_add, h8, e]
  rw [show (2 : Nat) ^ 8 = 256 from rfl] at *
  omega
theorem num_set (f : Nat → Bool) {r : Nat} (h : f r = false) : ∀ {m : Nat}, r < m → num (setB f r true) m = num f m + 2 ^ (m - 1 - r)
  | m + 1, hm => by
    simp only [num]
    by_cases hr : r = m
    · subst hr
      rw [setB_same, num_congr (g := f) (fun j hj => setB_ne f true (by omega)), h, show r + 1 - 1 - r = 0 by omega]
      rfl
    · rw [num_set f h (show r < m by omega), setB_ne f true (fun e => hr e.symm), show m + 1 - 1 - r = (m - 1 - r) + 1 by omega, Nat.pow_succ]
      omega

def bytesArr (T : Nat → Bool) : Array Value := ((List.range 128).map fun i => Value.int .u8 (by8 T i)).toArray
theorem bytesArr_get (T : Nat → Bool) {i : Nat} (h : i < 128) : (bytesArr T)[i]? = some (.int .u8 (by8 T i)) := by simp [bytesArr, h]
theorem bytesArr_set (T T' : Nat → Bool) {k : Nat} (hT : ∀ j, j < 128 → j ≠ k → by8 T' j = by8 T j) : (bytesArr T).setIfInBounds k (.int .u8 (by8 T' k)) = bytesArr T' := by
  apply Array.ext'
  apply List.ext_getElem?
  intro i
  simp only [bytesArr, Array.toList_setIfInBounds]
  rw [List.getElem?_set]
  by_cases hi : i < 128
  · by_cases hk : i = k
    · subst hk; simp [hi]
    · have : k ≠ i := fun e => hk e.symm
      simp [this, hi, hT i hi hk]
  · by_cases hk : k = i
    · subst hk; simp [hi]
    · simp [hk, hi]
theorem by8_other (T : Nat → Bool) (i : Nat) (v : Bool) {j : Nat} (h : j ≠ i / 8) : by8 (setB T i v) j = by8 T j :=
  num_congr fun l hl => setB_ne T v (by omega)
theorem by8_set (T : Nat → Bool) (i : Nat) (h : T i = false) : by8 (setB T i true) (i / 8) = by8 T (i / 8) + 2 ^ (7 - i % 8) := by
  unfold by8
  have h3 : num (fun j => setB T i true (8 * (i / 8) + j)) 8 = num (setB (fun j => T (8 * (i / 8) + j)) (i % 8) true) 8 := num_congr fun l hl => by
    unfold setB
    have : (l = i % 8) ↔ (8 * (i / 8) + l = i) := by omega
    simp only [this]
  rw [h3, num_set _ (by rw [show 8 * (i / 8) + i % 8 = i by omega]; exact h) (show i % 8 < 8 by omega), show 8 - 1 - i % 8 = 7 - i % 8 by omega]

def cut (T : Nat → Bool) (m : Nat) : Nat → Bool := fun j => T j && decide (j < m)
theorem by8_congr {T T' : Nat → Bool} {i : Nat} (h : ∀ l, l < 8 → T (8 * i + l) = T' (8 * i + l)) : by8 T i = by8 T' i := num_congr h
theorem bytesArr_congr {T T' : Nat → Bool} (h : ∀ i, i < 1024 → T i = T' i) : bytesArr T = bytesArr T' := by
  unfold bytesArr
  congr 1
  refine List.map_congr_left fun i hi => ?_
  rw [by8_congr (fun l hl => h (8 * i + l) (by have := List.mem_range.1 hi; omega))]
theorem bytesArr_zero {T : Nat → Bool} (h : ∀ i, T i = false) : bytesArr T = (List.replicate 128 (Value.int .u8 0)).toArray := by
  unfold bytesArr
  congr 1
  have : ((List.range 128).map fun i => Value.int .u8 (by8 T i)) = (List.range 128).map fun _ => Value.int .u8 0 :=
    List.map_congr_left fun i hi => by
      rw [show by8 T i = 0 from num_le_one _ (fun j => h _) 8]
      rfl
  rw [this, List.map_const', List.length_range]
theorem info_u8 : ∃ i, Tryz.prog.info? 5 = some i ∧ i.zero = some (.int .u8 0) ∧ i.size = 1 ∧ i.bytes = 1 := by
  have h : (match Tryz.prog.info? 5 with | some i => (match i.zero with | some (.int .u8 0) => true | _ => false) && i.size == 1 && i.bytes == 1 | none => false) = true := by kernel_rfl
  cases hq : Tryz.prog.info? 5 with
  | none => rw [hq] at h; cases h
  | some i =>
    rw [hq] at h
    simp only [Bool.and_eq_true, beq_iff_eq] at h
    refine ⟨i, rfl, ?_, h.1.2, h.2⟩
    have := h.1.1
    split at this
    · assumption
    · cases this

set_option maxHeartbeats 1000000 in
theorem bytes_any (w : World) (b n : Nat) (T : Nat → Bool) (hM : MapAt w b n T) : Calls Tryz.prog 95 #[.pointer (some ⟨b, 0, none⟩)] w
    fun e w' => ∃ bs, e = .returned (.slice (some ⟨bs, 0, none⟩) 128 128) ∧ w'.heap[bs]? = some (.cells (bytesArr T) 5 (0, 0)) ∧ w.heap.size ≤ bs ∧ Below w.heap.size w w' := by
  obtain ⟨i0, hi0, hz0, hz1, hz2⟩ := info_u8
  have hby : i0.bytes * 128 ≤ 281474976710656 := by rw [hz2]; omega
  have hmaxn : 128 ≤ maxLen := by unfold maxLen; omega
  have hzc : (Value.int .u8 0).cells = #[Value.int .u8 0] := rfl
  have hle := hM.le
  go_enter Tryz.func95, Tryz.ntmps95
  go_wp2_with (first
    | (go_at_call 91; refine (ok_any _ b n T hM).mono ?_; rintro e w ⟨rfl, rfl⟩)
    | ((with_reducible refine wpList_exec rfl (exec_make1 Tryz.underlying65 hi0 hz0 hz1 hzc hby hmaxn ?_ ?_) ?_); rfl; rfl; go_frame)
    | fail)
  have hX : (w.alloc (.cells (List.replicate 128 (.int .u8 0)).toArray 5)).heap[w.heap.size]? = some (.cells (bytesArr (cut T (8 * 0))) 5 (0, 0)) := by
    rw [heap_alloc_at, bytesArr_zero (fun i => by simp [cut])]
  have hMa : MapAt (w.alloc (.cells (List.replicate 128 (.int .u8 0)).toArray 5)) b n T := ⟨heap_alloc_of hM.blk, hM.pos, hM.le, hM.out⟩
  have hba : Below w.heap.size w (w.alloc (.cells (List.replicate 128 (.int .u8 0)).toArray 5)) := (Below.refl _ _).alloc (Nat.le_refl _) _
  have hbs : b < w.heap.size := hM.lt
  simp only [List.reduceReplicate] at hX hMa hba
  go_loopw [11] (fun c wr => ∃ k : Nat, k ≤ 128 ∧ c = .int .i64 k ∧ wr.heap[w.heap.size]? = some (.cells (bytesArr (cut T (8 * k))) 5 (0, 0)) ∧ MapAt wr b n T ∧ Below w.heap.size w wr) (fun c _ => 128 - (intOf c).toNat)
  case atStart => exact ⟨0, Nat.zero_le _, rfl, hX, hMa, hba⟩
  case round =>
    obtain ⟨k, hk, rfl, hh, hMr, hbr⟩ := hrel
    by_cases hlt : k < 128
    · have hlt' : (k : Int) < 128 := by omega
      have c := hMr.w_ (k := k / 8) (by omega)
      have hq1 : (k : Int) / 8 < 16 := by omega
      have hs0 : (0 : Int) ≤ 56 - 8 * ((k : Int) % 8) := by omega
      have hs1 : 56 - 8 * ((k : Int) % 8) ≤ 64 := by omega
      have hold : ∃ old, wr.cell? ⟨w.heap.size, k, none⟩ = some old := ⟨_, cell_of hh (bytesArr_get _ hlt)⟩
      obtain ⟨old, hold⟩ := hold
      have hfr : wr.frozen? ⟨w.heap.size, k, none⟩ = false := free_of hh
      have hv : ((wd T (k / 8) : Nat) : Int) / (2 : Int) ^ (56 - 8 * (k % 8)) % 256 = ((by8 T k : Nat) : Int) := by
        rw [← by8_word T k, Int.natCast_emod, Int.natCast_ediv, Int.natCast_pow]
        rfl
      have hnext : bytesArr (cut T (8 * (k + 1))) = (bytesArr (cut T (8 * k))).setIfInBounds k (.int .u8 (by8 T k)) := by
        have h1 : by8 T k = by8 (cut T (8 * (k + 1))) k := by8_congr fun l hl => by simp [cut]; omega
        rw [h1]
        exact (bytesArr_set _ _ fun j hj hne => by8_congr fun l hl => by
          unfold cut
          congr 1
          by_cases h : j < k
          · simp only [decide_eq_decide]; omega
          · simp only [decide_eq_decide]; omega).symm
      have HN := Lib.hid hnext
      have HV := Lib.hid hv
      clear hnext hv
      go_wp2
      rw [HV.out]
      refine ⟨⟨k + 1, by omega, by go_num, ?_, ?_, ?_⟩, by simp [intOf]; omega⟩
      · rw [heap_setCell_at hh, HN.out]
      · exact hMr.mod ((Mod.refl (fun x => x = w.heap.size) wr).setCell _ _ (fun _ => rfl)) (by omega)
      · exact hbr.setCell (Nat.le_refl _) _
    · obtain rfl : k = 128 := by omega
      have hE : bytesArr (cut T (8 * 128)) = bytesArr T := bytesArr_congr fun i hi => by simp [cut]; omega
      rw [hE] at hh
      go_wp2
      go_ret
      exact ⟨_, rfl, hh, Nat.le_refl _, hbr⟩
end Go.Proofs.YtipbaajdnnddgaaGreat.Al

/- Load, plain. -/
namespace Go.Proofs.YtipbaajdnnddgaaGreat.Al
open Go.RowKit Go.Tn Go.Tn.Bits
set_option maxRecDepth 20000

/-- The 128 bytes of the homes T came in. -/
def BytesIn (w : World) (ao : Option Addr) (T : Nat → Bool) : Prop := ∃ b off, ao = some ⟨b, off, none⟩ ∧ b < w.heap.size ∧ ∀ i, i < 128 → w.cell? ⟨b, off + i, none⟩ = some (.int .u8 (by8 T i))

/-- Word k behind i bytes. -/
def pw (T : Nat → Bool) (i k : Nat) : Nat := num (fun j => T (64 * k + j)) (8 * min 8 (i - 8 * k))
theorem pw_lt (T : Nat → Bool) (i k : Nat) : pw T i k < 18446744073709551616 := by
  have := num_lt (fun j => T (64 * k + j)) (8 * min 8 (i - 8 * k))
  have h : 2 ^ (8 * min 8 (i - 8 * k)) ≤ 2 ^ 64 := Nat.pow_le_pow_right (by decide) (by omega)
  unfold pw
  omega
def partArr (n : Nat) (T : Nat → Bool) (i : Nat) : Array Value := (Value.int .i64 n :: (List.range 16).map fun k => Value.int .u64 (pw T i k)).toArray
theorem partArr_0 (n : Nat) (T : Nat → Bool) : partArr n T 0 = mapCells n (fun _ => false) := by
  refine congrArg (fun l => (Value.int .i64 n :: l).toArray) (List.map_congr_left fun k _ => ?_)
  have h1 : pw T 0 k = 0 := by simp [pw, num]
  have h2 : wd (fun _ => false) k = 0 := num_le_one _ (fun _ => rfl) 64
  rw [h1, h2]
theorem partArr_128 (n : Nat) (T : Nat → Bool) : partArr n T 128 = mapCells n T := by
  refine congrArg (fun l => (Value.int .i64 n :: l).toArray) (List.map_congr_left fun k hk => ?_)
  have hk' := List.mem_range.1 hk
  have h1 : pw T 128 k = wd T k := by
    unfold pw wd
    rw [show 8 * min 8 (128 - 8 * k) = 64 by omega]
  rw [h1]
theorem partArr_w (n : Nat) (T : Nat → Bool) (i : Nat) {k : Nat} (h : k < 16) : (partArr n T i)[1 + k]? = some (.int .u64 (pw T i k)) := by
  simp [partArr, Nat.add_comm 1 k, h]
theorem partArr_set (n : Nat) (T : Nat → Bool) (i : Nat) : (partArr n T i).setIfInBounds (1 + i / 8) (.int .u64 (pw T (i + 1) (i / 8))) = partArr n T (i + 1) := by
  apply Array.ext'
  apply List.ext_getElem?
  intro l
  simp only [partArr, Array.toList_setIfInBounds]
  rw [List.getElem?_set]
  cases l with
  | zero => simp
  | succ l =>
    by_cases hl : l < 16
    · by_cases hk : l = i / 8
      · subst hk; simp [Nat.add_comm 1, hl]
      · have h1 : 1 + i / 8 ≠ l + 1 := by omega
        have h2 : pw T (i + 1) l = pw T i l := by unfold pw; rw [show min 8 (i + 1 - 8 * l) = min 8 (i - 8 * l) by omega]
        simp [h1, hl, h2]
    · by_cases hk : l = i / 8
      · subst hk; simp [Nat.add_comm 1, hl]; omega
      · have h1 : 1 + i / 8 ≠ l + 1 := by omega
        simp [h1, hl]
theorem pw_next (T : Nat → Bool) (i : Nat) : pw T (i + 1) (i / 8) = pw T i (i / 8) * 256 + by8 T i ∧ pw T i (i / 8) * 256 < 18446744073709551616 := by
  unfold pw by8
  rw [show 8 * min 8 (i + 1 - 8 * (i / 8)) = 8 * (i % 8) + 8 by omega, show 8 * min 8 (i - 8 * (i / 8)) = 8 * (i % 8) by omega, num_add]
  have hlt := num_lt (fun j => T (64 * (i / 8) + j)) (8 * (i % 8))
  have hp : 2 ^ (8 * (i % 8)) ≤ 2 ^ 56 := Nat.pow_le_pow_right (by decide) (by omega)
  refine ⟨?_, by omega⟩
  congr 1
  refine num_congr fun j hj => ?_
  rw [show 64 * (i / 8) + (8 * (i % 8) + j) = 8 * i + j by omega]
theorem pw_or (T : Nat → Bool) (i : Nat) : (pw T i (i / 8) * 256 ||| by8 T i) = pw T (i + 1) (i / 8) := by
  rw [(pw_next T i).1]
  have h := Nat.shiftLeft_add_eq_or_of_lt (show by8 T i < 2 ^ 8 from by8_lt T i) (pw T i (i / 8))
  rw [Nat.shiftLeft_eq] at h
  exact h.symm

/-- The homes of T but those from n on, up to i. -/
def clr (T : Nat → Bool) (n i : Nat) : Nat → Bool := fun j => T j && !decide (n ≤ j ∧ j < i)
theorem clr_self (T : Nat → Bool) (n : Nat) : clr T n n = T := by
  funext j
  unfold clr
  have : ¬ (n ≤ j ∧ j < n) := by omega
  simp [this]
theorem clr_next (T : Nat → Bool) {n i : Nat} (h : n ≤ i) : clr T n (i + 1) = setB (clr T n i) i false := by
  funext j
  unfold clr setB
  by_cases hj : j = i
  · subst hj; simp [h]
  · have : (n ≤ j ∧ j < i + 1) ↔ (n ≤ j ∧ j < i) := by omega
    simp [hj, this]
theorem wd_clear (T : Nat → Bool) (i : Nat) : wd T (i / 64) &&& (2 ^ 64 - (2 ^ (63 - i % 64) + 1)) = wd (setB T i false) (i / 64) := by
  unfold wd
  rw [num_andNot _ (show i % 64 < 64 by omega)]
  refine num_congr fun j hj => ?_
  unfold setB
  have : (j = i % 64) ↔ (64 * (i / 64) + j = i) := by omega
  simp only [this]

theorem wordsArr_set (T : Nat → Bool) (i : Nat) : (wordsArr T).setIfInBounds (i / 64) (.int .u64 (wd (setB T i false) (i / 64))) = wordsArr (setB T i false) := by
  apply Array.ext'
  apply List.ext_getElem?
  intro l
  simp only [wordsArr, Array.toList_setIfInBounds]
  rw [List.getElem?_set]
  by_cases hl : l < 16
  · by_cases hk : l = i / 64
    · subst hk; simp [hl]
    · have h1 : i / 64 ≠ l := fun e => hk e.symm
      have h2 : wd (setB T i false) l = wd T l := wd_other T i _ hk
      simp [h1, hl, h2]
  · by_cases hk : l = i / 64
    · subst hk; simp [hl]
    · have h1 : i / 64 ≠ l := fun e => hk e.symm
      simp [h1, hl]
theorem wordsArr_nums (T : Nat → Bool) : wordsArr T = numsArr .u64 16 (fun k => (wd T k : Int)) := rfl
theorem wd_inj {T U : Nat → Bool} {k : Nat} (h : wd T k = wd U k) {j : Nat} (hj : j < 64) : T (64 * k + j) = U (64 * k + j) := by
  have h1 := testBit_num (fun j => T (64 * k + j)) 64 (63 - j)
  have h2 := testBit_num (fun j => U (64 * k + j)) 64 (63 - j)
  unfold wd at h
  rw [h] at h1
  rw [h1] at h2
  rw [show 64 - 1 - (63 - j) = j by omega] at h2
  have : 63 - j < 64 := by omega
  simpa [this] using h2
/-- Both are alike just if no home from n on is taken. -/
theorem words_all (T : Nat → Bool) (n : Nat) : ((List.range 16).all fun k => ((wd (clr T n 1024) k : Nat) : Int) == ((wd T k : Nat) : Int)) = true ↔ ∀ j, j < 1024 → n ≤ j → T j = false := by
  rw [List.all_eq_true]
  constructor
  · intro h j hj hn
    have := h (j / 64) (List.mem_range.2 (by omega))
    have h1 : wd (clr T n 1024) (j / 64) = wd T (j / 64) := Int.ofNat.inj (eq_of_beq this)
    have h2 := wd_inj h1 (show j % 64 < 64 by omega)
    rw [show 64 * (j / 64) + j % 64 = j by omega] at h2
    unfold clr at h2
    rw [← h2]
    simp [hn, hj]
  · intro h k hk
    have hk' := List.mem_range.1 hk
    have : wd (clr T n 1024) k = wd T k := num_congr fun j hj => by
      unfold clr
      by_cases h1 : n ≤ 64 * k + j
      · rw [h (64 * k + j) (by omega) h1]; rfl
      · simp [h1]
    simp [this]
end Go.Proofs.YtipbaajdnnddgaaGreat.Al

/- Load. -/
namespace Go.Proofs.YtipbaajdnnddgaaGreat.Al
open Go.RowKit Go.Tn Go.Tn.Bits
set_option maxRecDepth 20000

theorem or_value (T : Nat → Bool) (i : Nat) : bits .or .u64 (IntKind.u64.wrap ((pw T i (i / 8) : Nat) * 256 : Int)) ((by8 T i : Nat) : Int) = ((pw T (i + 1) (i / 8) : Nat) : Int) := by
  have h := (pw_next T i).2
  have h8 := by8_lt T i
  rw [show ((pw T i (i / 8) : Nat) * 256 : Int) = ((pw T i (i / 8) * 256 : Nat) : Int) by omega, wrap_u64 _ h, bits_or _ _ h (by omega), pw_or]

set_option maxHeartbeats 4000000 in
set_option maxRecDepth 20000 in
theorem load_any (w : World) (ao : Option Addr) (cap : Nat) (T : Nat → Bool) (hB : BytesIn w ao T) (hT : ∀ i, 1024 ≤ i → T i = false) (n : Nat) (h1 : 1 ≤ n) (h2 : n ≤ 1024) :
    Calls Tryz.prog 74 #[.slice ao 128 cap, .int .i64 n] w fun e w' =>
      ((∀ j, j < 1024 → n ≤ j → T j = false) → ∃ b, e = .returned (.tuple #[.pointer (some ⟨b, 0, none⟩), .int .i64 0]) ∧ MapAt w' b n T ∧ w.heap.size ≤ b) ∧ ((¬ ∀ j, j < 1024 → n ≤ j → T j = false) → e = .returned (.tuple #[.pointer none, .int .i64 4])) ∧ Below w.heap.size w w' := by
  obtain ⟨bb, off, rfl, hbb, hcs⟩ := hB
  go_enter Tryz.func74, Tryz.ntmps74
  go_wp2_with fail
  refine (new_any w n h1 h2).mono ?_
  rintro e w1 ⟨rfl, rfl⟩
  have hX : (w.alloc (.cells (mapCells n (fun _ => false)) 149)).heap[w.heap.size]? = some (.cells (partArr n T 0) 149 (0, 0)) := by rw [partArr_0]; exact heap_alloc_at
  have hb0 : Below w.heap.size w (w.alloc (.cells (mapCells n (fun _ => false)) 149)) := (Below.refl _ _).alloc (Nat.le_refl _) _
  generalize w.alloc (.cells (mapCells n (fun _ => false)) 149) = w1 at *
  go_wp2
  go_loopw [25] (fun c wr => ∃ k : Nat, k ≤ 128 ∧ c = .int .i64 k ∧ wr.heap[w.heap.size]? = some (.cells (partArr n T k) 149 (0, 0)) ∧ Below w.heap.size w wr) (fun c _ => 128 - (intOf c).toNat)
  case atStart => exact ⟨0, Nat.zero_le _, rfl, hX, hb0⟩
  case round =>
    obtain ⟨k, hk, rfl, hh, hbr⟩ := hrel
    by_cases hlt : k < 128
    · have hlt' : (k : Int) < 128 := by omega
      have hc := hcs k hlt
      have hcr : wr.cell? ⟨bb, off + k, none⟩ = some (.int .u8 (by8 T k)) := by rw [hbr.cell (p := ⟨bb, off + k, none⟩) hbb]; exact hc
      have hold : wr.cell? ⟨w.heap.size, 1 + k / 8, none⟩ = some (.int .u64 (pw T k (k / 8))) := cell_of hh (partArr_w n T k (by omega))
      have hfr : wr.frozen? ⟨w.heap.size, 1 + k / 8, none⟩ = false := free_of hh
      have hv := Lib.hid (or_value T k)
      have hset := Lib.hid (partArr_set n T k)
      have hidx : (k : Int) / 8 < 16 := by omega
      have hq : IntKind.i64.wrap ((k : Int) / 8) = (k : Int) / 8 := by simp [IntKind.wrap, IntKind.bits, IntKind.signed]; omega
      have hq0 : (0 : Int) ≤ (k : Int) / 8 := by omega
      have hqn : ((k : Int) / 8).toNat = k / 8 := by omega
      have h8 := by8_lt T k
      have h64 := pw_lt T k (k / 8)
      clear hc
      generalize pw T k (k / 8) = x at *
      generalize pw T (k + 1) (k / 8) = z at *
      generalize by8 T k = y at *
      go_upto_region 9 with (fail)
      refine wp_region_x (fun w' => w'.cell? ⟨w.heap.size, 1 + k / 8, none⟩ = some (.int .u64 x)) [(0, 1), (1, 1), (2, 1), (3, 1), (4, 1), (5, 1), (6, 1), (7, 1), (8, 1), (9, 0), (10, 1), (11, 1), (12, 1), (13, 1), (14, 1), (15, 1), (16, 1), (17, 3)] (by kernel_rfl) (by kernel_rfl) (by intro d v c a w h; cases d <;> exact h) ?_
      iterate 9 (refine x_take rfl (fun K hK => ?_); go_simp; refine hK _ ?_; clear hK K)
      refine x_read rfl hold (fun w' h => exec_load1 scalar64 rfl h) ?_
      iterate 7 (refine x_take rfl (fun K hK => ?_); go_simp; refine hK _ ?_; clear hK K)
      refine x_skip rfl (exec_store1 scalar64 size64 rfl rfl rfl hold hfr) ?_
      refine x_nil ?_
      go_wp2
      go_roundw
      case rel => exact ⟨k + 1, by omega, by go_num, by
        refine (heap_setCell_at hh).trans ?_
        rw [hv.out, hset.out], hbr.drew.setCell (Nat.le_refl _) _⟩
      case measure => simp [intOf]; omega
    · obtain rfl : k = 128 := by omega
      rw [partArr_128] at hh
      rw [show ((128 : Nat) : Int) = 128 from rfl]
      have hl : Lies wr w.heap.size 1 (wordsArr T) := fun j hj => by
        have hj' : j < 16 := by rw [wordsArr_size] at hj; exact hj
        have h1 : wr.cell? ⟨w.heap.size, 1 + j, none⟩ = some (.int .u64 (wd T j)) := cell_of hh (mapCells_w n T hj')
        rw [h1]
        have := wordsArr_get T hj'
        rw [Array.getElem?_eq_getElem hj] at this
        exact this.symm
      have hone : (wordsArr T).all (·.oneCell') = true := by
        rw [Array.all_eq_true']
        intro x hx
        simp [wordsArr] at hx
        obtain ⟨k, _, rfl⟩ := hx
        rfl
      have hsz := wordsArr_size T
      have hlw : w.heap.size < wr.heap.size := lt_of_block hh
      go_wp2_with (first
        | ((with_reducible refine wpList_loadA (aggWords T) hl ?_ ?_); rfl; go_frame)
        | ((with_reducible refine wpList_storeA_new (aggWords T) ?_ hone ?_ ?_ ?_); exact hsz.symm; rfl; rfl; go_frame)
        | fail)
      have hX2 : (wr.alloc (.cells (wordsArr T) 147)).heap[wr.heap.size]? = some (.cells (wordsArr (clr T n n)) 147 (0, 0)) := by rw [clr_self]; exact heap_alloc_at
      have hM2 : (wr.alloc (.cells (wordsArr T) 147)).heap[w.heap.size]? = some (.cells (mapCells n T) 149 (0, 0)) := heap_alloc_of hh
      have hb2 : Below w.heap.size w (wr.alloc (.cells (wordsArr T) 147)) := hbr.alloc hbr.size _
      clear hh hl hone hsz hX hb0
      have hsw := hbr.size
      generalize wr.alloc (.cells (wordsArr T) 147) = w2 at *
      clear hbr
      obtain ⟨v1, hv1⟩ : ∃ v1, v1 = wr := ⟨_, rfl⟩
      subst hv1
      go_loopw [11] (fun c wr => ∃ k : Nat, n ≤ k ∧ k ≤ 1024 ∧ c = .int .i64 k ∧ wr.heap[v1.heap.size]? = some (.cells (wordsArr (clr T n k)) 147 (0, 0)) ∧ wr.heap[w.heap.size]? = some (.cells (mapCells n T) 149 (0, 0)) ∧ Below w.heap.size w wr) (fun c _ => 1024 - (intOf c).toNat)
      case atStart => exact ⟨n, Nat.le_refl _, h2, rfl, hX2, hM2, hb2⟩
      case round =>
        obtain ⟨k, hnk, hk, rfl, hx, hm, hbq⟩ := hrel
        by_cases hlt : k < 1024
        · have hlt' : (k : Int) < 1024 := by omega
          have hold : wr.cell? ⟨v1.heap.size, k / 64, none⟩ = some (.int .u64 (wd (clr T n k) (k / 64))) := cell_of hx (wordsArr_get _ (by omega))
          have hfr : wr.frozen? ⟨v1.heap.size, k / 64, none⟩ = false := free_of hx
          have hbit := fun w => bit_any w k
          have hv := Lib.hid (show bits .andNot .u64 ((wd (clr T n k) (k / 64) : Nat) : Int) ((2 ^ (63 - k % 64) : Nat) : Int) = ((wd (clr T n (k + 1)) (k / 64) : Nat) : Int) by
            have hp : 2 ^ (63 - k % 64) < 2 ^ 64 := Nat.pow_lt_pow_right (by decide) (by omega)
            rw [bits_andNot _ _ (wd_lt _ _) hp, wd_clear, clr_next T hnk])
          have hset := Lib.hid (show (wordsArr (clr T n k)).setIfInBounds (k / 64) (.int .u64 (wd (clr T n (k + 1)) (k / 64))) = wordsArr (clr T n (k + 1)) by
            rw [clr_next T hnk]; exact wordsArr_set _ _)
          have hidx : (k : Int) / 64 < 16 := by omega
          have hq : IntKind.i64.wrap ((k : Int) / 64) = (k : Int) / 64 := by simp [IntKind.wrap, IntKind.bits, IntKind.signed]; omega
          have hq0 : (0 : Int) ≤ (k : Int) / 64 := by omega
          have hqn : ((k : Int) / 64).toNat = k / 64 := by omega
          generalize wd (clr T n k) (k / 64) = x at *
          generalize wd (clr T n (k + 1)) (k / 64) = z at *
          generalize 2 ^ (63 - k % 64) = p at *
          go_upto_region 15 with (fail)
          refine wp_region_x (fun w' => w'.cell? ⟨v1.heap.size, k / 64, none⟩ = some (.int .u64 x)) [(0, 1), (1, 1), (2, 1), (3, 0), (4, 1), (5, 2), (6, 1), (7, 1), (8, 3)] (by kernel_rfl) (by kernel_rfl) (by intro d v c a w h; cases d <;> exact h) ?_
          iterate 3 (refine x_take rfl (fun K hK => ?_); go_simp; refine hK _ ?_; clear hK K)
          refine x_read rfl hold (fun w' h => exec_load1 scalar64 rfl h) ?_
          iterate 1 (refine x_take rfl (fun K hK => ?_); go_simp; refine hK _ ?_; clear hK K)
          refine x_show' rfl (fun K hK => ?_)
          go_simp
          refine (hbit _).mono ?_
          rintro e w3 ⟨rfl, hw3⟩
          obtain rfl := hw3.symm
          clear hw3
          refine hK _ _ hold ?_
          clear hK K
          iterate 2 (refine x_take rfl (fun K hK => ?_); go_simp; refine hK _ ?_; clear hK K)
          refine x_skip rfl (exec_store1 scalar64 size64 rfl rfl rfl hold hfr) ?_
          refine x_nil ?_
          go_wp2
          go_roundw
          case rel =>
            refine ⟨k + 1, by omega, by omega, by go_num, ?_, ?_, hbq.drew.setCell hsw _⟩
            · refine (heap_setCell_at hx).trans ?_
              rw [hv.out, hset.out]
            · exact heap_setCell_of hm (show w.heap.size ≠ v1.heap.size by omega)
          case measure => simp [intOf]; omega
        · obtain rfl : k = 1024 := by omega
          have hl1 : Lies wr v1.heap.size 0 (wordsArr (clr T n 1024)) := lies_of hx
          have hl2 : Lies wr w.heap.size 1 (wordsArr T) := fun j hj => by
            have hj' : j < 16 := by rw [wordsArr_size] at hj; exact hj
            have h1 : wr.cell? ⟨w.heap.size, 1 + j, none⟩ = some (.int .u64 (wd T j)) := cell_of hm (mapCells_w n T hj')
            rw [h1]
            have := wordsArr_get T hj'
            rw [Array.getElem?_eq_getElem hj] at this
            exact this.symm
          go_upto_region 16 with (fail)
          refine wp_region_x (fun w' => Lies w' v1.heap.size 0 (wordsArr (clr T n 1024)) ∧ Lies w' w.heap.size 1 (wordsArr T)) [(0, 0), (1, 1), (2, 1), (3, 1), (4, 0), (5, 1)] (by kernel_rfl) (by kernel_rfl) (by intro d v c a w h; cases d <;> exact h) ?_
          refine x_read rfl ⟨hl1, hl2⟩ (fun w' h => exec_loadA (aggWords _) rfl h.1) ?_
          iterate 3 (refine x_take rfl (fun K hK => ?_); go_simp; refine hK _ ?_; clear hK K)
          refine x_read rfl ⟨hl1, hl2⟩ (fun w' h => exec_loadA (aggWords _) rfl h.2) ?_
          by_cases hok : ∀ j, j < 1024 → n ≤ j → T j = false
          · refine x_take rfl (fun K hK => ⟨.bool (!true), fun w' => exec_neqA (k := .u64) (f := fun k => (wd (clr T n 1024) k : Int)) (h := fun k => (wd T k : Int)) Tryz.underlying147 Tryz.underlying30 (fun w => by kernel_rfl) (by kernel_rfl) rfl rfl ((words_all T n).2 hok) w', hK _ ?_⟩)
            clear hK K
            refine x_nil ?_
            go_wp2
            go_ret2
            exact ⟨fun _ => ⟨_, rfl, ⟨hm, h1, h2, fun i hi => if h : i < 1024 then hok i h hi else hT i (by omega)⟩, Nat.le_refl _⟩, fun h => absurd hok h, hbq.drew⟩
          · have hno : ((List.range 16).all fun k => ((wd (clr T n 1024) k : Nat) : Int) == ((wd T k : Nat) : Int)) = false := by
              cases hc : ((List.range 16).all fun k => ((wd (clr T n 1024) k : Nat) : Int) == ((wd T k : Nat) : Int)) with
              | false => rfl
              | true => exact absurd ((words_all T n).1 hc) hok
            refine x_take rfl (fun K hK => ⟨.bool (!false), fun w' => exec_neqA (k := .u64) (f := fun k => (wd (clr T n 1024) k : Int)) (h := fun k => (wd T k : Int)) Tryz.underlying147 Tryz.underlying30 (fun w => by kernel_rfl) (by kernel_rfl) rfl rfl hno w', hK _ ?_⟩)
            clear hK K
            refine x_nil ?_
            go_wp2
            go_ret2
            exact ⟨fun h => absurd h hok, fun _ => rfl, hbq.drew⟩


/-- Bytes came in. -/
def RawIn (w : World) (ao : Option Addr) (len : Nat) (v : Nat → Nat) : Prop := 0 < len → ∃ b off, ao = some ⟨b, off, none⟩ ∧ b < w.heap.size ∧ ∀ i, i < len → w.cell? ⟨b, off + i, none⟩ = some (.int .u8 (v i)) ∧ v i < 256
/-- The homes of some bytes. -/
def homesOf (v : Nat → Nat) : Nat → Bool := fun i => decide (i < 1024) && (v (i / 8)).testBit (7 - i % 8)
theorem by8_homes (v : Nat → Nat) {i : Nat} (hi : i < 128) (h : v i < 256) : by8 (homesOf v) i = v i := by
  have := num_of (m := 8) (x := v i) h
  rw [this]
  unfold by8
  refine num_congr fun j hj => ?_
  unfold homesOf
  have h1 : 8 * i + j < 1024 := by omega
  rw [show (8 * i + j) / 8 = i by omega, show 7 - (8 * i + j) % 8 = 8 - 1 - j by omega]
  simp [h1]
theorem RawIn.bytes {w : World} {ao : Option Addr} {v : Nat → Nat} (h : RawIn w ao 128 v) : BytesIn w ao (homesOf v) := by
  obtain ⟨b, off, rfl, hb, hc⟩ := h (by decide)
  exact ⟨b, off, rfl, hb, fun i hi => by rw [by8_homes v hi (hc i hi).2]; exact (hc i hi).1⟩
theorem BytesIn.below {w w' : World} {ao : Option Addr} {T : Nat → Bool} (h : BytesIn w ao T) (hb : Below w.heap.size w w') : BytesIn w' ao T := by
  obtain ⟨b, off, rfl, hlt, hc⟩ := h
  exact ⟨b, off, rfl, Nat.lt_of_lt_of_le hlt hb.size, fun i hi => by rw [hb.cell (p := ⟨b, off + i, none⟩) hlt]; exact hc i hi⟩
/-- Neither side loads anything: both say the same. -/
theorem load_no (w : World) (ao : Option Addr) (len cap : Nat) (n : Int) (h : ¬ (1 ≤ n ∧ n ≤ 1024)) : Calls Tryz.prog 74 #[.slice ao len cap, .int .i64 n] w
    fun e w' => e = .returned (.tuple #[.pointer none, .int .i64 2]) ∧ w' = w := by
  go_enter Tryz.func74, Tryz.ntmps74
  go_wp2_with fail
  refine (new_no w n h).mono ?_
  rintro e w' ⟨rfl, hw⟩
  obtain rfl := hw.symm
  clear hw
  go_wp2
  go_ret2
  exact ⟨rfl, rfl⟩
theorem load_len (w : World) (ao : Option Addr) (len cap : Nat) (n : Nat) (h1 : 1 ≤ n) (h2 : n ≤ 1024) (hl : len ≠ 128) : Calls Tryz.prog 74 #[.slice ao len cap, .int .i64 n] w
    fun e w' => e = .returned (.tuple #[.pointer none, .int .i64 4]) ∧ Below w.heap.size w w' := by
  have t1 : ((len : Int) != 128) = true := by simp; omega
  go_enter Tryz.func74, Tryz.ntmps74
  go_wp2_with fail
  refine (new_any w n h1 h2).mono ?_
  rintro e w1 ⟨rfl, rfl⟩
  have hb0 : Below w.heap.size w (w.alloc (.cells (mapCells n (fun _ => false)) 149)) := (Below.refl _ _).alloc (Nat.le_refl _) _
  generalize w.alloc (.cells (mapCells n (fun _ => false)) 149) = w1 at *
  go_wp2
  go_ret2
  exact ⟨rfl, hb0⟩
end Go.Proofs.YtipbaajdnnddgaaGreat.Al

/- A new disk's log, in plain words. -/
namespace Go.Proofs.YtipbaajdnnddgaaGreat
open Go.RowKit Go.Tn Go.Tn.Bt Go.Tn.Lp Go.Tn.Dk
theorem newd_get {k i : Nat} (hi : i < k) : (newD k).get i = zeroS := by
  unfold Dsk.get newD seenQ
  simp [hi]
set_option maxRecDepth 100000 in
theorem ends_zero : endsB zeroS = (0, 0) := by decide +kernel
set_option maxRecDepth 100000 in
theorem unseal_zero0 : (unsealB zeroS).map (fun p => (p.ep, p.ct, p.fi, p.la, p.da)) = some (0, 0, false, false, []) := by decide +kernel
theorem unseal_zero : unsealB zeroS = some ⟨0, 0, false, false, []⟩ := by
  have h := unseal_zero0
  cases hu : unsealB zeroS with
  | none => rw [hu] at h; cases h
  | some p =>
    rw [hu] at h
    obtain ⟨a, b, c, d, e⟩ := p
    simp at h
    obtain ⟨rfl, rfl, rfl, rfl, rfl⟩ := h
    rfl
theorem newest_zero (k : Nat) : ∀ j, j ≤ k → newestB (newD k) j = 0
  | 0, _ => rfl
  | j + 1, h => by
    unfold newestB
    rw [newest_zero k j (by omega), newd_get (by omega), ends_zero]
    rfl
theorem hd_zero (i : Nat) : hdB zeroS i = none := by
  unfold hdB
  rw [unseal_zero]
  simp [headP]
theorem head_zero {k a : Nat} (h : a + 1 < k) : (newD k).head a = none := by
  unfold Dsk.head
  rw [newd_get (by omega), newd_get h, hd_zero, hd_zero]
  rfl
theorem rec_zero {k n ep g f : Nat} (hn : 2 ≤ n) (hk : n + 3 ≤ k) : (log0 n ep g 0).recordB (newD k) f = [] := by
  have hp : pieceB (newD k) n 0 = some ⟨0, 0, false, false, []⟩ := by
    unfold pieceB
    rw [Nat.zero_mod, newd_get (by omega), unseal_zero]
    rfl
  unfold Lg.recordB
  have hfr : (log0 n ep g 0).free = (n - 1) + 1 := by
    show n - (0 - 0) = _
    omega
  rw [hfr]
  show recGo (newD k) n 0 f (n - 1 + 1) [] = []
  unfold recGo
  rw [show 0 + ([] : List Pc).length = 0 from rfl, hp]
  simp
theorem open_new {k n : Nat} (hn : 2 ≤ n) (hk : n + 3 ≤ k) : openB (newD k) n = some (log0 n 1 0 0) := by
  unfold openB
  rw [newest_zero k (2 + n) (by omega), if_neg (by omega), head_zero (by omega)]
  simp only [Option.getD_none, Option.isSome_none]
  unfold replayL
  have hh : hd0.gen = 0 ∧ hd0.tail = 0 := ⟨rfl, rfl⟩
  rw [hh.1, hh.2, if_neg (by decide)]
  unfold replayGo
  rw [rec_zero hn hk]
  rfl
end Go.Proofs.YtipbaajdnnddgaaGreat
