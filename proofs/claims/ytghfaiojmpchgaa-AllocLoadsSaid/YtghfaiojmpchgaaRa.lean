/- The document's map of homes in memory, and walks of its functions. -/
import Derived.Test.YtghfaiojmpchgaaWd
namespace Go.Proofs.Ytghfaiojmpchgaa
open Go.RowKit Go.Tn Go.Tn.Bits

/-- The document's map: a list of truths behind a struct of one cell. -/
structure RAt (w : World) (b bt n : Nat) (T : Nat → Bool) : Prop where
  blk : w.heap[b]? = some (.cells #[.slice (some ⟨bt, 0, none⟩) n n] 62 (0, 0))
  bools : BoolsAt w bt n T
  ne : b ≠ bt
  pos : 1 ≤ n
  le : n ≤ 1024
  out : ∀ i, n ≤ i → T i = false

theorem RAt.c0 {w : World} {b bt n : Nat} {T : Nat → Bool} (h : RAt w b bt n T) : w.cell? ⟨b, 0, none⟩ = some (.slice (some ⟨bt, 0, none⟩) n n) := cell_of h.blk rfl
theorem RAt.mod {w w' : World} {b bt n : Nat} {T : Nat → Bool} {S : Nat → Prop} (h : RAt w b bt n T) (hm : Mod S w w') (hS : ¬ S b) (hS' : ¬ S bt) : RAt w' b bt n T := ⟨hm.heap h.blk hS, h.bools.mod hm hS', h.ne, h.pos, h.le, h.out⟩
theorem RAt.set {w : World} {b bt n : Nat} {T : Nat → Bool} (h : RAt w b bt n T) {i : Nat} (hi : i < n) (v : Bool) : RAt (w.setCell ⟨bt, i, none⟩ (.bool v)) b bt n (setB T i v) :=
  ⟨heap_setCell_of h.blk h.ne, h.bools.set i v, h.ne, h.pos, h.le, fun j hj => by rw [setB_ne T v (by omega)]; exact h.out j hj⟩

theorem rNew_any (w : World) (n : Nat) (h1 : 1 ≤ n) (h2 : n ≤ 1024) : Calls Try.prog 14 #[.int .i64 n] w
    fun e w' => ∃ b bt, e = .returned (.tuple #[.pointer (some ⟨b, 0, none⟩), .int .i64 0]) ∧ RAt w' b bt n (fun _ => false) ∧ w.heap.size ≤ b ∧ w.heap.size ≤ bt ∧ Below w.heap.size w w' := by
  obtain ⟨i0, hi0, hz0, hz1, hz2⟩ := info_bool
  have hby : i0.bytes * n ≤ 281474976710656 := by rw [hz2]; omega
  have hmaxn : n ≤ maxLen := by unfold maxLen; omega
  have hzc : (Value.bool false).cells = #[Value.bool false] := rfl
  have h1' : (1 : Int) ≤ (n : Int) := by omega
  have h2' : (n : Int) ≤ 1024 := by omega
  go_enter Try.func14, Try.ntmps14
  go_wp2_with (first
    | ((with_reducible refine wpList_exec rfl (exec_make1 Try.underlying28 hi0 hz0 hz1 hzc hby hmaxn ?_ ?_) ?_); rfl; rfl; go_frame)
    | fail)
  go_ret2
  have e1 : (w.alloc (.cells (Array.replicate n (.bool false)) 4)).heap.size = w.heap.size + 1 := by simp
  refine ⟨w.heap.size + 1, w.heap.size, rfl, ⟨?_, ?_, by omega, h1, h2, fun _ _ => rfl⟩, by omega, Nat.le_refl _, ((Below.refl _ _).alloc (Nat.le_refl _) _).alloc (by rw [e1]; omega) _⟩
  · rw [← e1]; exact heap_alloc_at
  · unfold BoolsAt
    refine (heap_alloc_lt (by rw [e1]; omega)).trans ?_
    rw [heap_alloc_at]
    congr 2
    simp [boolCells, List.map_const', List.toArray_replicate]

theorem rHas_any (w : World) (b bt n : Nat) (T : Nat → Bool) (hR : RAt w b bt n T) (i : Int) : Calls Try.prog 21 #[.pointer (some ⟨b, 0, none⟩), .int .i64 i] w
    fun e w' => e = .returned (.bool (decide (0 ≤ i ∧ i < n) && T i.toNat)) ∧ w' = w := by
  have c := hR.c0
  by_cases h0 : 0 ≤ i
  · obtain ⟨k, rfl⟩ := Int.eq_ofNat_of_zero_le h0
    by_cases h1 : k < n
    · have hk : (k : Int) < (n : Int) := by omega
      have ct := hR.bools.cell h1
      have hd : (decide (0 ≤ (k : Int) ∧ (k : Int) < (n : Int)) && T (k : Int).toNat) = T k := by simp [h1]
      rw [hd]
      generalize T k = v at *
      clear hd
      go_enter Try.func21, Try.ntmps21
      go_wp2
      go_ret
      exact ⟨rfl, rfl⟩
    · have hk : (n : Int) ≤ (k : Int) := by omega
      have hd : (decide (0 ≤ (k : Int) ∧ (k : Int) < (n : Int)) && T (k : Int).toNat) = false := by simp [h1]
      rw [hd]
      clear hd
      go_enter Try.func21, Try.ntmps21
      go_wp2
      go_ret
      exact ⟨rfl, rfl⟩
  · have h0' : i < 0 := by omega
    have hd : (decide (0 ≤ i ∧ i < (n : Int)) && T i.toNat) = false := by simp [h0]
    rw [hd]
    clear hd
    go_enter Try.func21, Try.ntmps21
    go_wp2
    go_ret
    exact ⟨rfl, rfl⟩

theorem rHold_any (w : World) (b bt n : Nat) (T : Nat → Bool) (hR : RAt w b bt n T) (i : Int) : Calls Try.prog 16 #[.pointer (some ⟨b, 0, none⟩), .int .i64 i] w
    fun e w' => e = .returned (.int .i64 (holdA n T i)) ∧ RAt w' b bt n (holdT n T i) ∧ Mod (fun x => x = bt) w w' := by
  have c := hR.c0
  by_cases h0 : 0 ≤ i ∧ i < n
  · obtain ⟨k, rfl⟩ := Int.eq_ofNat_of_zero_le h0.1
    have h1 : k < n := by omega
    have hk : (k : Int) < (n : Int) := by omega
    have ct := hR.bools.cell h1
    have hf := hR.bools.free (o := k)
    have HR := Lib.hid (hR.set h1 true)
    have hA : holdA n T (k : Int) = if T k then 10 else 0 := by unfold holdA; rw [if_pos h0, Int.toNat_natCast]
    have hT : holdT n T (k : Int) = setB T k true := by unfold holdT; rw [if_pos h0, Int.toNat_natCast]
    rw [hA, hT]
    clear hA hT
    by_cases hv : T k
    · rw [if_pos hv]
      rw [hv] at ct
      have HS := Lib.hid (show setB T k true = T by rw [← hv, setB_self])
      clear hv h0
      go_enter Try.func16, Try.ntmps16
      go_wp2
      go_ret
      exact ⟨rfl, by rw [HS.out]; exact hR, Mod.refl _ _⟩
    · rw [if_neg hv]
      have hv' : T k = false := by simpa using hv
      rw [hv'] at ct
      clear hv hv' h0
      go_enter Try.func16, Try.ntmps16
      go_wp2
      go_ret
      exact ⟨rfl, HR.out, (Mod.refl _ w).setCell _ _ (fun _ => rfl)⟩
  · have hA : holdA n T i = 2 := by unfold holdA; rw [if_neg h0]
    have hT : holdT n T i = T := by unfold holdT; rw [if_neg h0]
    rw [hA, hT]
    clear hA hT
    by_cases hn : i < 0
    · clear h0
      go_enter Try.func16, Try.ntmps16
      go_wp2
      go_ret
      exact ⟨rfl, hR, Mod.refl _ _⟩
    · have hk : (n : Int) ≤ i := by omega
      have hn' : 0 ≤ i := by omega
      clear h0 hn
      go_enter Try.func16, Try.ntmps16
      go_wp2
      go_ret
      exact ⟨rfl, hR, Mod.refl _ _⟩

theorem rGive_any (w : World) (b bt n : Nat) (T : Nat → Bool) (hR : RAt w b bt n T) (i : Int) : Calls Try.prog 18 #[.pointer (some ⟨b, 0, none⟩), .int .i64 i] w
    fun e w' => e = .returned (.int .i64 (giveA n T i)) ∧ RAt w' b bt n (giveT n T i) ∧ Mod (fun x => x = bt) w w' := by
  have c := hR.c0
  by_cases h0 : 0 ≤ i ∧ i < n
  · obtain ⟨k, rfl⟩ := Int.eq_ofNat_of_zero_le h0.1
    have h1 : k < n := by omega
    have hk : (k : Int) < (n : Int) := by omega
    have ct := hR.bools.cell h1
    have hf := hR.bools.free (o := k)
    have HR := Lib.hid (hR.set h1 false)
    have hA : giveA n T (k : Int) = if T k then 0 else 11 := by unfold giveA; rw [if_pos h0, Int.toNat_natCast]
    have hT : giveT n T (k : Int) = setB T k false := by unfold giveT; rw [if_pos h0, Int.toNat_natCast]
    rw [hA, hT]
    clear hA hT
    by_cases hv : T k
    · rw [if_pos hv]
      rw [hv] at ct
      clear hv h0
      go_enter Try.func18, Try.ntmps18
      go_wp2
      go_ret
      exact ⟨rfl, HR.out, (Mod.refl _ w).setCell _ _ (fun _ => rfl)⟩
    · rw [if_neg hv]
      have hv' : T k = false := by simpa using hv
      rw [hv'] at ct
      have HS := Lib.hid (show setB T k false = T by rw [← hv', setB_self])
      clear hv hv' h0
      go_enter Try.func18, Try.ntmps18
      go_wp2
      go_ret
      exact ⟨rfl, by rw [HS.out]; exact hR, Mod.refl _ _⟩
  · have hA : giveA n T i = 2 := by unfold giveA; rw [if_neg h0]
    have hT : giveT n T i = T := by unfold giveT; rw [if_neg h0]
    rw [hA, hT]
    clear hA hT
    by_cases hn : i < 0
    · clear h0
      go_enter Try.func18, Try.ntmps18
      go_wp2
      go_ret
      exact ⟨rfl, hR, Mod.refl _ _⟩
    · have hk : (n : Int) ≤ i := by omega
      have hn' : 0 ≤ i := by omega
      clear h0 hn
      go_enter Try.func18, Try.ntmps18
      go_wp2
      go_ret
      exact ⟨rfl, hR, Mod.refl _ _⟩

set_option maxHeartbeats 1000000 in
theorem rFree_any (w : World) (b bt n : Nat) (T : Nat → Bool) (hR : RAt w b bt n T) : Calls Try.prog 19 #[.pointer (some ⟨b, 0, none⟩)] w
    fun e w' => e = .returned (.int .i64 ((n : Int) - cnt T n)) ∧ w' = w := by
  have c := hR.c0
  have hle := hR.le
  go_enter Try.func19, Try.ntmps19
  go_wp2
  go_loopw [3, 4] (fun o i wr => ∃ k : Nat, k ≤ n ∧ i = .int .i64 k ∧ o = .int .i64 ((k : Int) - cnt T k) ∧ wr = w) (fun _ i _ => n - (intOf i).toNat)
  case atStart => exact ⟨0, Nat.zero_le _, rfl, by simp [cnt], rfl⟩
  case round =>
    obtain ⟨k, hk, rfl, rfl, rfl⟩ := hrel
    by_cases hlt : k < n
    · have hlt' : (k : Int) < (n : Int) := by omega
      have ct := hR.bools.cell hlt
      have hcl := cnt_le T k
      have hc1 : cnt T (k + 1) = cnt T k + (T k).toNat := rfl
      cases hv : T k
      case' false => skip
      case' true => skip
      all_goals
        rw [hv] at ct hc1
        simp only [Bool.toNat_true, Bool.toNat_false] at hc1
        clear hv
        go_wp2
        go_roundw
        case rel => exact ⟨k + 1, by omega, by go_num, by rw [hc1]; go_num, by first | rfl | trivial⟩
        case measure => simp [intOf]; omega
    · obtain rfl : k = n := by omega
      go_wp2
      go_ret
      exact ⟨rfl, rfl⟩

set_option maxHeartbeats 1000000 in
theorem rTake_any (w : World) (b bt n : Nat) (T : Nat → Bool) (hR : RAt w b bt n T) : Calls Try.prog 15 #[.pointer (some ⟨b, 0, none⟩)] w
    fun e w' => e = .returned (takeV n T) ∧ RAt w' b bt n (takeT n T) ∧ Mod (fun x => x = bt) w w' := by
  have c := hR.c0
  have hle := hR.le
  go_enter Try.func15, Try.ntmps15
  go_wp2
  go_loopw [4] (fun i wr => ∃ k : Nat, k ≤ n ∧ i = .int .i64 k ∧ (∀ j, j < k → T j = true) ∧ wr = w) (fun i _ => n - (intOf i).toNat)
  case atStart => exact ⟨0, Nat.zero_le _, rfl, fun j hj => by omega, rfl⟩
  case round =>
    obtain ⟨k, hk, rfl, hall, rfl⟩ := hrel
    by_cases hlt : k < n
    · have hlt' : (k : Int) < (n : Int) := by omega
      have ct := hR.bools.cell hlt
      cases hv : T k
      · have hl0 : least n T = k := fst_eq (fun j hj => by simp [hall j hj]) (by simp [hv]) hlt
        have HV := Lib.hid (show takeV n T = .tuple #[.int .i64 k, .int .i64 0] ∧ takeT n T = setB T k true by
          unfold takeV takeT; rw [hl0, if_pos hlt, if_pos hlt]; exact ⟨rfl, rfl⟩)
        have HR := Lib.hid (hR.set hlt true)
        have hf := hR.bools.free (o := k)
        rw [hv] at ct
        clear hv hall hl0
        go_wp2
        go_ret2
        exact ⟨by rw [HV.out.1]; rfl, by rw [HV.out.2]; exact HR.out, (Mod.refl _ wr).setCell _ _ (fun _ => rfl)⟩
      · rw [hv] at ct
        have HA := Lib.hid (show ∀ j, j < k + 1 → T j = true from fun j hj => by
          by_cases h : j < k
          · exact hall j h
          · obtain rfl : j = k := by omega
            exact hv)
        clear hv hall
        go_wp2
        go_roundw
        case rel => exact ⟨k + 1, by omega, by go_num, HA.out, by first | rfl | trivial⟩
        case measure => simp [intOf]; omega
    · obtain rfl : k = n := by omega
      have hfull : least k T = k := fst_full fun j hj => by simp [hall j hj]
      have HV := Lib.hid (show takeV k T = .tuple #[.int .i64 (-1), .int .i64 8] ∧ takeT k T = T by unfold takeV takeT; rw [hfull]; simp)
      clear hall hfull
      go_wp2
      go_ret2
      exact ⟨by rw [HV.out.1]; rfl, by rw [HV.out.2]; exact hR, Mod.refl _ _⟩

end Go.Proofs.Ytghfaiojmpchgaa
