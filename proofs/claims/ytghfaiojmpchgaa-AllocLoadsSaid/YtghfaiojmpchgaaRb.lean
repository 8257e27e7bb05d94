/- The bytes of a map of homes, by the program and by the document. -/
import Derived.Test.YtghfaiojmpchgaaRa
namespace Go.Proofs.Ytghfaiojmpchgaa
open Go.RowKit Go.Tn Go.Tn.Bits

/-- Byte i of the homes. -/
def by8 (T : Nat → Bool) (i : Nat) : Nat := num (fun j => T (8 * i + j)) 8
theorem by8_lt (T : Nat → Bool) (i : Nat) : by8 T i < 256 := num_lt _ 8
theorem by8_word (T : Nat → Bool) (i : Nat) : wd T (i / 8) / 2 ^ (56 - 8 * (i % 8)) % 256 = by8 T i := by
  unfold wd by8
  have h := num_add (fun j => T (64 * (i / 8) + j)) (8 * (i % 8) + 8) (56 - 8 * (i % 8))
  rw [show 8 * (i % 8) + 8 + (56 - 8 * (i % 8)) = 64 by omega] at h
  have hlt := num_lt (fun j => T (64 * (i / 8) + (8 * (i % 8) + 8 + j))) (56 - 8 * (i % 8))
  have hpos : 0 < 2 ^ (56 - 8 * (i % 8)) := Nat.pow_pos (by decide)
  have h8 := num_add (fun j => T (64 * (i / 8) + j)) (8 * (i % 8)) 8
  have e : num (fun j => T (64 * (i / 8) + (8 * (i % 8) + j))) 8 = num (fun j => T (8 * i + j)) 8 := num_congr fun j hj => by
    rw [show 64 * (i / 8) + (8 * (i % 8) + j) = 8 * i + j by omega]
  have hb := num_lt (fun j => T (8 * i + j)) 8
  rw [h, Nat.add_comm, Nat.add_mul_div_right _ _ hpos, Nat.div_eq_of_lt hlt, Nat.zero_add, h8, e]
  rw [show (2 : Nat) ^ 8 = 256 from rfl] at *
  omega
theorem num_set (f : Nat → Bool) {r : Nat} (h : f r = false) : ∀ {m : Nat}, r < m → num (setB f r true) m = num f m + 2 ^ (m - 1 - r)
  | m + 1, hm => by
    simp only [num]
    by_cases hr : r = m
    · subst hr
      rw [setB_same, num_congr (g := f) (fun j hj => setB_ne f true (by omega)), h, show r + 1 - 1 - r = 0 by omega]
      rfl
    · rw [num_set f h (show r < m by omega), setB_ne f true (fun e => hr e.symm), show m + 1 - 1 - r = (m - 1 - r) + 1 by omega, Nat.pow_succ]
      omega

def bytesArr (T : Nat → Bool) : Array Value := ((List.range 128).map fun i => Value.int .u8 (by8 T i)).toArray
theorem bytesArr_get (T : Nat → Bool) {i : Nat} (h : i < 128) : (bytesArr T)[i]? = some (.int .u8 (by8 T i)) := by simp [bytesArr, h]
theorem bytesArr_set (T T' : Nat → Bool) {k : Nat} (hT : ∀ j, j < 128 → j ≠ k → by8 T' j = by8 T j) : (bytesArr T).setIfInBounds k (.int .u8 (by8 T' k)) = bytesArr T' := by
  apply Array.ext'
  apply List.ext_getElem?
  intro i
  simp only [bytesArr, Array.toList_setIfInBounds]
  rw [List.getElem?_set]
  by_cases hi : i < 128
  · by_cases hk : i = k
    · subst hk; simp [hi]
    · have : k ≠ i := fun e => hk e.symm
      simp [this, hi, hT i hi hk]
  · by_cases hk : k = i
    · subst hk; simp [hi]
    · simp [hk, hi]
theorem by8_other (T : Nat → Bool) (i : Nat) (v : Bool) {j : Nat} (h : j ≠ i / 8) : by8 (setB T i v) j = by8 T j :=
  num_congr fun l hl => setB_ne T v (by omega)
theorem by8_set (T : Nat → Bool) (i : Nat) (h : T i = false) : by8 (setB T i true) (i / 8) = by8 T (i / 8) + 2 ^ (7 - i % 8) := by
  unfold by8
  have h3 : num (fun j => setB T i true (8 * (i / 8) + j)) 8 = num (setB (fun j => T (8 * (i / 8) + j)) (i % 8) true) 8 := num_congr fun l hl => by
    unfold setB
    have : (l = i % 8) ↔ (8 * (i / 8) + l = i) := by omega
    simp only [this]
  rw [h3, num_set _ (by rw [show 8 * (i / 8) + i % 8 = i by omega]; exact h) (show i % 8 < 8 by omega), show 8 - 1 - i % 8 = 7 - i % 8 by omega]

def cut (T : Nat → Bool) (m : Nat) : Nat → Bool := fun j => T j && decide (j < m)
theorem by8_congr {T T' : Nat → Bool} {i : Nat} (h : ∀ l, l < 8 → T (8 * i + l) = T' (8 * i + l)) : by8 T i = by8 T' i := num_congr h
theorem bytesArr_congr {T T' : Nat → Bool} (h : ∀ i, i < 1024 → T i = T' i) : bytesArr T = bytesArr T' := by
  unfold bytesArr
  congr 1
  refine List.map_congr_left fun i hi => ?_
  rw [by8_congr (fun l hl => h (8 * i + l) (by have := List.mem_range.1 hi; omega))]
theorem bytesArr_zero {T : Nat → Bool} (h : ∀ i, T i = false) : bytesArr T = (List.replicate 128 (Value.int .u8 0)).toArray := by
  unfold bytesArr
  congr 1
  have : ((List.range 128).map fun i => Value.int .u8 (by8 T i)) = (List.range 128).map fun _ => Value.int .u8 0 :=
    List.map_congr_left fun i hi => by
      rw [show by8 T i = 0 from num_le_one _ (fun j => h _) 8]
      rfl
  rw [this, List.map_const', List.length_range]
theorem info_u8 : ∃ i, Try.prog.info? 5 = some i ∧ i.zero = some (.int .u8 0) ∧ i.size = 1 ∧ i.bytes = 1 := by
  have h : (match Try.prog.info? 5 with | some i => (match i.zero with | some (.int .u8 0) => true | _ => false) && i.size == 1 && i.bytes == 1 | none => false) = true := by kernel_rfl
  cases hq : Try.prog.info? 5 with
  | none => rw [hq] at h; cases h
  | some i =>
    rw [hq] at h
    simp only [Bool.and_eq_true, beq_iff_eq] at h
    refine ⟨i, rfl, ?_, h.1.2, h.2⟩
    have := h.1.1
    split at this
    · assumption
    · cases this

set_option maxHeartbeats 1000000 in
theorem bytes_any (w : World) (b n : Nat) (T : Nat → Bool) (hM : MapAt w b n T) : Calls Try.prog 23 #[.pointer (some ⟨b, 0, none⟩)] w
    fun e w' => ∃ bs, e = .returned (.slice (some ⟨bs, 0, none⟩) 128 128) ∧ w'.heap[bs]? = some (.cells (bytesArr T) 5 (0, 0)) ∧ w.heap.size ≤ bs ∧ Below w.heap.size w w' := by
  obtain ⟨i0, hi0, hz0, hz1, hz2⟩ := info_u8
  have hby : i0.bytes * 128 ≤ 281474976710656 := by rw [hz2]; omega
  have hmaxn : 128 ≤ maxLen := by unfold maxLen; omega
  have hzc : (Value.int .u8 0).cells = #[Value.int .u8 0] := rfl
  have hle := hM.le
  go_enter Try.func23, Try.ntmps23
  go_wp2_with (first
    | (go_at_call 29; refine (ok_any _ b n T hM).mono ?_; rintro e w ⟨rfl, rfl⟩)
    | ((with_reducible refine wpList_exec rfl (exec_make1 Try.underlying47 hi0 hz0 hz1 hzc hby hmaxn ?_ ?_) ?_); rfl; rfl; go_frame)
    | fail)
  have hX : (w.alloc (.cells (List.replicate 128 (.int .u8 0)).toArray 5)).heap[w.heap.size]? = some (.cells (bytesArr (cut T (8 * 0))) 5 (0, 0)) := by
    rw [heap_alloc_at, bytesArr_zero (fun i => by simp [cut])]
  have hMa : MapAt (w.alloc (.cells (List.replicate 128 (.int .u8 0)).toArray 5)) b n T := ⟨heap_alloc_of hM.blk, hM.pos, hM.le, hM.out⟩
  have hba : Below w.heap.size w (w.alloc (.cells (List.replicate 128 (.int .u8 0)).toArray 5)) := (Below.refl _ _).alloc (Nat.le_refl _) _
  have hbs : b < w.heap.size := hM.lt
  simp only [List.reduceReplicate] at hX hMa hba
  go_loopw [11] (fun c wr => ∃ k : Nat, k ≤ 128 ∧ c = .int .i64 k ∧ wr.heap[w.heap.size]? = some (.cells (bytesArr (cut T (8 * k))) 5 (0, 0)) ∧ MapAt wr b n T ∧ Below w.heap.size w wr) (fun c _ => 128 - (intOf c).toNat)
  case atStart => exact ⟨0, Nat.zero_le _, rfl, hX, hMa, hba⟩
  case round =>
    obtain ⟨k, hk, rfl, hh, hMr, hbr⟩ := hrel
    by_cases hlt : k < 128
    · have hlt' : (k : Int) < 128 := by omega
      have c := hMr.w_ (k := k / 8) (by omega)
      have hq1 : (k : Int) / 8 < 16 := by omega
      have hs0 : (0 : Int) ≤ 56 - 8 * ((k : Int) % 8) := by omega
      have hs1 : 56 - 8 * ((k : Int) % 8) ≤ 64 := by omega
      have hold : ∃ old, wr.cell? ⟨w.heap.size, k, none⟩ = some old := ⟨_, cell_of hh (bytesArr_get _ hlt)⟩
      obtain ⟨old, hold⟩ := hold
      have hfr : wr.frozen? ⟨w.heap.size, k, none⟩ = false := free_of hh
      have hv : ((wd T (k / 8) : Nat) : Int) / (2 : Int) ^ (56 - 8 * (k % 8)) % 256 = ((by8 T k : Nat) : Int) := by
        rw [← by8_word T k, Int.natCast_emod, Int.natCast_ediv, Int.natCast_pow]
        rfl
      have hnext : bytesArr (cut T (8 * (k + 1))) = (bytesArr (cut T (8 * k))).setIfInBounds k (.int .u8 (by8 T k)) := by
        have h1 : by8 T k = by8 (cut T (8 * (k + 1))) k := by8_congr fun l hl => by simp [cut]; omega
        rw [h1]
        exact (bytesArr_set _ _ fun j hj hne => by8_congr fun l hl => by
          unfold cut
          congr 1
          by_cases h : j < k
          · simp only [decide_eq_decide]; omega
          · simp only [decide_eq_decide]; omega).symm
      have HN := Lib.hid hnext
      have HV := Lib.hid hv
      clear hnext hv
      go_wp2
      rw [HV.out]
      refine ⟨⟨k + 1, by omega, by go_num, ?_, ?_, ?_⟩, by simp [intOf]; omega⟩
      · rw [heap_setCell_at hh, HN.out]
      · exact hMr.mod ((Mod.refl (fun x => x = w.heap.size) wr).setCell _ _ (fun _ => rfl)) (by omega)
      · exact hbr.setCell (Nat.le_refl _) _
    · obtain rfl : k = 128 := by omega
      have hE : bytesArr (cut T (8 * 128)) = bytesArr T := bytesArr_congr fun i hi => by simp [cut]; omega
      rw [hE] at hh
      go_wp2
      go_ret
      exact ⟨_, rfl, hh, Nat.le_refl _, hbr⟩

theorem pow128 : ∀ r : Fin 8, (128 : Int) / 2 ^ r.val = ((2 ^ (7 - r.val) : Nat) : Int) := by decide
theorem cut_succ (T : Nat → Bool) (k : Nat) : cut T (k + 1) = if T k then setB (cut T k) k true else cut T k := by
  funext j
  unfold cut
  by_cases hj : j = k
  · subst hj
    cases h : T j
    · simp [h]
    · simp [setB, h]
  · have : decide (j < k + 1) = decide (j < k) := by simp only [decide_eq_decide]; omega
    rw [this]
    split
    · rw [setB_ne _ _ hj]
    · rfl

set_option maxHeartbeats 1000000 in
theorem rBytes_any (w : World) (b bt n : Nat) (T : Nat → Bool) (hR : RAt w b bt n T) : Calls Try.prog 24 #[.pointer (some ⟨b, 0, none⟩)] w
    fun e w' => ∃ bs, e = .returned (.slice (some ⟨bs, 0, none⟩) 128 128) ∧ w'.heap[bs]? = some (.cells (bytesArr T) 5 (0, 0)) ∧ w.heap.size ≤ bs ∧ Below w.heap.size w w' := by
  obtain ⟨i0, hi0, hz0, hz1, hz2⟩ := info_u8
  have hby : i0.bytes * 128 ≤ 281474976710656 := by rw [hz2]; omega
  have hmaxn : 128 ≤ maxLen := by unfold maxLen; omega
  have hzc : (Value.int .u8 0).cells = #[Value.int .u8 0] := rfl
  have hle := hR.le
  go_enter Try.func24, Try.ntmps24
  go_wp2_with (first
    | ((with_reducible refine wpList_exec rfl (exec_make1 Try.underlying47 hi0 hz0 hz1 hzc hby hmaxn ?_ ?_) ?_); rfl; rfl; go_frame)
    | fail)
  have hX : (w.alloc (.cells (List.replicate 128 (.int .u8 0)).toArray 5)).heap[w.heap.size]? = some (.cells (bytesArr (cut T 0)) 5 (0, 0)) := by
    rw [heap_alloc_at, bytesArr_zero (fun i => by simp [cut])]
  have hb' : b < w.heap.size := lt_of_block hR.blk
  have hbt' : bt < w.heap.size := hR.bools.lt
  have hMa : RAt (w.alloc (.cells (List.replicate 128 (.int .u8 0)).toArray 5)) b bt n T := hR.mod (S := fun _ => False) ((Mod.refl _ _).alloc _) (fun h => h) (fun h => h)
  have hba : Below w.heap.size w (w.alloc (.cells (List.replicate 128 (.int .u8 0)).toArray 5)) := (Below.refl _ _).alloc (Nat.le_refl _) _
  simp only [List.reduceReplicate] at hX hMa hba
  go_loopw [4] (fun c wr => ∃ k : Nat, k ≤ n ∧ c = .int .i64 k ∧ wr.heap[w.heap.size]? = some (.cells (bytesArr (cut T k)) 5 (0, 0)) ∧ RAt wr b bt n T ∧ Below w.heap.size w wr) (fun c _ => n - (intOf c).toNat)
  case atStart => exact ⟨0, Nat.zero_le _, rfl, hX, hMa, hba⟩
  case round =>
    obtain ⟨k, hk, rfl, hh, hRr, hbr⟩ := hrel
    have c := hRr.c0
    by_cases hlt : k < n
    · have hlt' : (k : Int) < (n : Int) := by omega
      have ct := hRr.bools.cell hlt
      have hcs := cut_succ T k
      cases hv : T k
      · rw [hv] at ct hcs
        simp only [Bool.false_eq_true, if_false] at hcs
        have HC := Lib.hid hcs
        clear hv hcs
        go_wp2
        go_roundw
        case rel => exact ⟨k + 1, by omega, by go_num, by rw [HC.out]; exact hh, hRr, hbr⟩
        case measure => simp [intOf]; omega
      · rw [hv] at ct hcs
        simp only [if_true] at hcs
        have hq : k / 8 < 128 := by omega
        have hq' : (k : Int) / 8 < 128 := by omega
        have hold : wr.cell? ⟨w.heap.size, k / 8, none⟩ = some (.int .u8 (by8 (cut T k) (k / 8))) := cell_of hh (bytesArr_get _ hq)
        have hfr : wr.frozen? ⟨w.heap.size, k / 8, none⟩ = false := free_of hh
        have hs0 : (0 : Int) ≤ (k : Int) % 8 := by omega
        have hs1 : (k : Int) % 8 ≤ 8 := by omega
        have hset := by8_set (cut T k) k (by simp [cut])
        have hlt8 := by8_lt (setB (cut T k) k true) (k / 8)
        have hpw := pow128 ⟨k % 8, by omega⟩
        simp only at hpw
        have hval : (((by8 (cut T k) (k / 8) : Nat) : Int) + 128 / 2 ^ (k % 8)) % 256 = ((by8 (setB (cut T k) k true) (k / 8) : Nat) : Int) := by
          rw [hpw, ← Int.natCast_add, ← hset]
          omega
        have hnext : bytesArr (cut T (k + 1)) = (bytesArr (cut T k)).setIfInBounds (k / 8) (.int .u8 (by8 (setB (cut T k) k true) (k / 8))) := by
          rw [hcs]
          exact (bytesArr_set _ _ fun j hj hne => by8_other (cut T k) k true hne).symm
        have HN := Lib.hid hnext
        have HV := Lib.hid hval
        clear hv hnext hval hset hlt8 hpw hcs
        go_wp2
        rw [HV.out]
        refine ⟨⟨k + 1, by omega, by go_num, ?_, ?_, ?_⟩, by simp [intOf]; omega⟩
        · rw [heap_setCell_at hh, HN.out]
        · exact hRr.mod ((Mod.refl (fun x => x = w.heap.size) wr).setCell _ _ (fun _ => rfl)) (by omega) (by omega)
        · exact hbr.setCell (Nat.le_refl _) _
    · obtain rfl : k = n := by omega
      have hE : bytesArr (cut T k) = bytesArr T := bytesArr_congr fun i hi => by
        unfold cut
        by_cases h : i < k
        · simp [h]
        · simp [h, hR.out i (by omega)]
      rw [hE] at hh
      go_wp2
      go_ret
      exact ⟨_, rfl, hh, Nat.le_refl _, hbr⟩

end Go.Proofs.Ytghfaiojmpchgaa
