/- 'lives', and the walk of the law AllocOnce. -/
import Derived.Test.YtghfaiojmpchgaaWc
namespace Go.Proofs.Ytghfaiojmpchgaa
open Go.RowKit Go.Tn Go.Tn.Bits

theorem MapAt.lt {w : World} {b n : Nat} {T : Nat → Bool} (h : MapAt w b n T) : b < w.heap.size := lt_of_block h.blk

set_option maxHeartbeats 1000000 in
theorem lives_any (w : World) : Calls Try.prog 13 #[] w fun e w' => e = .returned (.bool true) ∧ Below w.heap.size w w' := by
  go_enter Try.func13, Try.ntmps13
  go_wp2_with fail
  refine (new_any w 3 (by decide) (by decide)).mono ?_
  rintro e w1 ⟨rfl, rfl⟩
  have hM := MapAt.new (w := w) (n := 3) (by decide) (by decide)
  have hb1 : Below w.heap.size w (w.alloc (.cells (mapCells 3 (fun _ => false)) 53)) := (Below.refl _ _).alloc (Nat.le_refl _) _
  generalize w.alloc (.cells (mapCells 3 (fun _ => false)) 53) = w1 at *
  go_wp2_with fail
  refine (hold_any w1 _ 3 _ hM 1).mono ?_
  rintro e w2 ⟨he, hM2, hm2⟩
  rw [show holdA 3 (fun _ => false) 1 = 0 by decide] at he
  subst he
  have hb2 : Below w.heap.size w w2 := hb1.trans (hm2.below hb1.size (fun x hx he => by omega))
  clear hb1 hm2 hM
  go_wp2_with fail
  refine (take_any w2 _ 3 _ hM2).mono ?_
  rintro e w3 ⟨he, hM3, hm3⟩
  rw [show takeV 3 (holdT 3 (fun _ => false) 1) = .tuple #[.int .i64 0, .int .i64 0] by unfold takeV; rw [show least 3 (holdT 3 (fun _ => false) 1) = 0 by decide]; rfl] at he
  subst he
  have hb3 : Below w.heap.size w w3 := hb2.trans (hm3.below hb2.size (fun x hx he => by omega))
  clear hb2 hm3 hM2
  have hh := fun w hM => has_yes w w.heap.size 3 (takeT 3 (holdT 3 (fun _ => false) 1)) hM 1 (by decide)
  go_wp2_with fail
  refine (has_yes w3 _ 3 _ hM3 1 (by decide)).mono ?_
  rintro e w4 ⟨he, nd, rfl⟩
  rw [show takeT 3 (holdT 3 (fun _ => false) 1) 1 = true by decide] at he
  subst he
  go_wp2_with fail
  refine (free_any _ _ 3 _ (hM3.drewN nd)).mono ?_
  rintro e w5 ⟨he, rfl⟩
  rw [show ((3 : Nat) : Int) - (cnt (takeT 3 (holdT 3 (fun _ => false) 1)) 3 : Int) = 1 by decide] at he
  subst he
  go_wp2
  go_ret
  exact ⟨rfl, below_drewN hb3 nd⟩

theorem within_any (w : World) (x : Int) : Calls Try.prog 7 #[.int .i64 x, .int .i64 1, .int .i64 1024] w fun e w' => (∃ k : Nat, 1 ≤ k ∧ k ≤ 1024 ∧ e = .returned (.int .i64 k)) ∧ w' = w := by
  by_cases h1 : x < 1
  · go_enter Try.func7, Try.ntmps7
    go_wp2
    go_ret
    exact ⟨⟨1, by omega, by omega, rfl⟩, rfl⟩
  · by_cases h2 : 1024 < x
    · go_enter Try.func7, Try.ntmps7
      go_wp2
      go_ret
      exact ⟨⟨1024, by omega, by omega, rfl⟩, rfl⟩
    · obtain ⟨k, rfl⟩ := Int.eq_ofNat_of_zero_le (show 0 ≤ x by omega)
      have h3 : k ≤ 1024 := by omega
      have h4 : 1 ≤ k := by omega
      go_enter Try.func7, Try.ntmps7
      go_wp2
      go_ret
      exact ⟨⟨k, h4, h3, rfl⟩, rfl⟩

def boolCells (n : Nat) (T : Nat → Bool) : Array Value := ((List.range n).map fun j => Value.bool (T j)).toArray
/-- n homes as a list of truths. -/
def BoolsAt (w : World) (b n : Nat) (T : Nat → Bool) : Prop := w.heap[b]? = some (.cells (boolCells n T) 4 (0, 0))
theorem BoolsAt.cell {w : World} {b n : Nat} {T : Nat → Bool} (h : BoolsAt w b n T) {i : Nat} (hi : i < n) : w.cell? ⟨b, i, none⟩ = some (.bool (T i)) := cell_of h (by simp [boolCells, hi])
theorem BoolsAt.free {w : World} {b n : Nat} {T : Nat → Bool} (h : BoolsAt w b n T) {o : Nat} : w.frozen? ⟨b, o, none⟩ = false := free_of h
theorem BoolsAt.set {w : World} {b n : Nat} {T : Nat → Bool} (h : BoolsAt w b n T) (i : Nat) (v : Bool) : BoolsAt (w.setCell ⟨b, i, none⟩ (.bool v)) b n (setB T i v) := by
  unfold BoolsAt
  rw [heap_setCell_at h]
  congr 2
  apply Array.ext'
  apply List.ext_getElem?
  intro j
  simp only [boolCells, Array.toList_setIfInBounds]
  rw [List.getElem?_set]
  unfold setB
  by_cases hj : j < n
  · by_cases he : i = j
    · subst he; simp [hj]
    · have he' : j ≠ i := fun e => he e.symm
      simp [hj, he, he']
  · by_cases he : i = j
    · subst he; simp [hj]
    · simp [hj, he]
theorem BoolsAt.mod {w w' : World} {b n : Nat} {T : Nat → Bool} {S : Nat → Prop} (h : BoolsAt w b n T) (hm : Mod S w w') (hS : ¬ S b) : BoolsAt w' b n T := hm.heap h hS
theorem BoolsAt.lt {w : World} {b n : Nat} {T : Nat → Bool} (h : BoolsAt w b n T) : b < w.heap.size := lt_of_block h
theorem BoolsAt.zero {w : World} {n : Nat} : BoolsAt (w.alloc (.cells (List.replicate n (.bool false)).toArray 4)) w.heap.size n (fun _ => false) := by
  unfold BoolsAt
  rw [heap_alloc_at]
  congr 2
  simp [boolCells, List.map_const']
theorem info_bool : ∃ i, Try.prog.info? 4 = some i ∧ i.zero = some (.bool false) ∧ i.size = 1 ∧ i.bytes = 1 := by
  have h : (match Try.prog.info? 4 with | some i => (match i.zero with | some (.bool false) => true | _ => false) && i.size == 1 && i.bytes == 1 | none => false) = true := by kernel_rfl
  cases hq : Try.prog.info? 4 with
  | none => rw [hq] at h; cases h
  | some i =>
    rw [hq] at h
    simp only [Bool.and_eq_true, beq_iff_eq] at h
    refine ⟨i, rfl, ?_, h.1.2, h.2⟩
    have := h.1.1
    split at this
    · assumption
    · cases this
theorem scalarBool : ScalarT Try.prog 4 := ⟨⟨_, Try.underlying4, rfl⟩⟩
theorem sizeBool : (Try.prog.info? 4).map (·.size) = some 1 := by kernel_rfl

theorem cnt_all {f : Nat → Bool} : ∀ {m : Nat}, (∀ j, j < m → f j = true) → cnt f m = m
  | 0, _ => rfl
  | m + 1, h => by simp only [cnt]; rw [cnt_all (fun j hj => h j (by omega)), h m (by omega)]; rfl
theorem least_some {n : Nat} {T : Nat → Bool} (h : cnt T n < n) : least n T < n ∧ T (least n T) = false := by
  have hle := fst_le (fun i => !T i) n
  have hlt : least n T < n := by
    unfold least
    rcases Nat.lt_or_ge (fst (fun i => !T i) n) n with h1 | h1
    · exact h1
    · have : cnt T n = n := cnt_all fun j hj => by simpa using fst_none (f := fun i => !T i) (m := n) (j := j) (by omega)
      omega
  exact ⟨hlt, by simpa [least] using fst_some (f := fun i => !T i) hlt⟩
theorem least_none {n : Nat} {T : Nat → Bool} (h : cnt T n = n) : least n T = n := by
  have hle := fst_le (fun i => !T i) n
  rcases Nat.lt_or_ge (fst (fun i => !T i) n) n with h1 | h1
  · have h2 := fst_some (f := fun i => !T i) h1
    simp at h2
    have := cnt_set T true h1
    rw [h2, h] at this
    have hl := cnt_le (setB T (fst (fun i => !T i) n) true) n
    simp at this
    omega
  · unfold least; omega

/-- A list of numbers that came in. -/
def IntsIn (w : World) (ao : Option Addr) (len : Nat) (zs : Nat → Int) : Prop := 0 < len → ∃ b off, ao = some ⟨b, off, none⟩ ∧ b < w.heap.size ∧ ∀ i, i < len → w.cell? ⟨b, off + i, none⟩ = some (.int .i64 (zs i))

/-- How many of n truths in memory do not hold. -/
def freeIn (w : World) (bt n : Nat) : Nat := n - cnt (fun j => match w.cell? ⟨bt, j, none⟩ with | some (.bool v) => v | _ => false) n
theorem freeIn_eq {w : World} {bt n : Nat} {T : Nat → Bool} (h : BoolsAt w bt n T) : freeIn w bt n = n - cnt T n := by
  unfold freeIn
  rw [cnt_congr (g := T) (fun j hj => by rw [h.cell hj])]

set_option maxHeartbeats 4000000 in
set_option maxRecDepth 20000 in
theorem once_walk (w : World) (x : Int) (ao : Option Addr) (len cap : Nat) (zs : Nat → Int) (hz : IntsIn w ao len zs) (hlc : len ≤ cap) (hcm : cap ≤ maxLen) :
    Calls Try.prog 3 #[.int .i64 x, .slice ao len cap] w fun e w' => e = .returned (.bool true) ∧ Below w.heap.size w w' := by
  unfold maxLen at hcm
  obtain ⟨i0, hi0, hz0, hz1, hz2⟩ := info_bool
  go_enter Try.func3, Try.ntmps3
  go_wp2_with fail
  refine (within_any w x).mono ?_
  rintro e w0 ⟨⟨n, hn1, hn2, rfl⟩, rfl⟩
  go_wp2_with fail
  refine (new_any w0 n hn1 hn2).mono ?_
  rintro e w1 ⟨rfl, rfl⟩
  have hM0 := MapAt.new (w := w0) hn1 hn2
  have hb0 : Below w0.heap.size w0 (w0.alloc (.cells (mapCells n (fun _ => false)) 53)) := (Below.refl _ _).alloc (Nat.le_refl _) _
  have hs0 : w0.heap.size < (w0.alloc (.cells (mapCells n (fun _ => false)) 53)).heap.size := hM0.lt
  generalize w0.alloc (.cells (mapCells n (fun _ => false)) 53) = w1 at *
  have hby : i0.bytes * n ≤ 281474976710656 := by rw [hz2]; omega
  have hmaxn : n ≤ maxLen := by unfold maxLen; omega
  have hzc : (Value.bool false).cells = #[Value.bool false] := rfl
  go_upto_region 6 with (first
    | ((with_reducible refine wpList_exec rfl (exec_make1 Try.underlying28 hi0 hz0 hz1 hzc hby hmaxn ?_ ?_) ?_); rfl; rfl; go_frame)
    | fail)
  have hB1 : BoolsAt (w1.alloc (.cells (List.replicate n (.bool false)).toArray 4)) w1.heap.size n (fun _ => false) := BoolsAt.zero
  have hM1 : MapAt (w1.alloc (.cells (List.replicate n (.bool false)).toArray 4)) w0.heap.size n (fun _ => false) := ⟨heap_alloc_of hM0.blk, hn1, hn2, fun _ _ => rfl⟩
  have hb1 : Below w0.heap.size w0 (w1.alloc (.cells (List.replicate n (.bool false)).toArray 4)) := hb0.alloc hb0.size _
  have hbt : w0.heap.size < w1.heap.size := hs0
  generalize w1.alloc (.cells (List.replicate n (.bool false)).toArray 4) = w2 at *
  generalize w1.heap.size = bt at *
  clear hM0 hb0 hs0 hi0 hz0 hz1 hz2 hby hmaxn hzc
  go_wp2
  go_loopw [8] (fun c wr => ∃ i : Nat, i ≤ 50 ∧ c = .int .i64 i ∧ (∃ T, MapAt wr w0.heap.size n T ∧ BoolsAt wr bt n T) ∧ Below w0.heap.size w0 wr) (fun c _ => 50 - (intOf c).toNat)
  case atStart => exact ⟨0, Nat.zero_le _, rfl, ⟨_, hM1, hB1⟩, hb1⟩
  case round =>
    obtain ⟨i, hi50, rfl, ⟨T, hM, hB⟩, hbr⟩ := hrel
    by_cases hgo : i < len ∧ i < 50
    · obtain ⟨hil, hi5⟩ := hgo
      obtain ⟨bh, off, rfl, hbh, hcs⟩ := hz (by omega)
      have hc : wr.cell? ⟨bh, off + i, none⟩ = some (.int .i64 (zs i)) := by rw [hbr.cell (p := ⟨bh, off + i, none⟩) hbh]; exact hcs i hil
      have hil' : (i : Int) < (len : Int) := by omega
      have hi5' : (i : Int) < 50 := by omega
      generalize zs i = y at *
      clear hcs
      go_upto_region 9 with (fail)
      refine wp_region_lit ?_
      go_wp2_with fail
      refine (hold_any wr _ n T hM y).mono ?_
      rintro e w3 ⟨rfl, hM3, hm3⟩
      have hbtr : bt < wr.heap.size := hB.lt
      have hB3 : BoolsAt w3 bt n T := hB.mod hm3 (by omega)
      have hb3 : Below w0.heap.size w0 w3 := hbr.trans (hm3.below hbr.size (fun x hx he => by omega))
      have hc3 : w3.cell? ⟨bh, off + i, none⟩ = some (.int .i64 y) := by rw [(hm3.below hbr.size (fun x hx he => by omega)).cell (p := ⟨bh, off + i, none⟩) hbh]; exact hc
      by_cases hin : 0 ≤ y ∧ y < n
      · obtain ⟨k, rfl⟩ := Int.eq_ofNat_of_zero_le hin.1
        have hk : k < n := by omega
        have hk' : (k : Int) < (n : Int) := by omega
        rw [show holdT n T (k : Int) = setB T k true by unfold holdT; rw [if_pos hin, Int.toNat_natCast]] at hM3
        have hA : holdA n T (k : Int) = if T k then 10 else 0 := by unfold holdA; rw [if_pos hin, Int.toNat_natCast]
        rw [hA]
        clear hA
        by_cases hT : T k
        · have HS := Lib.hid (show setB T k true = T by rw [← hT, setB_self])
          rw [if_pos hT]
          clear hT hin
          go_wp2
          go_roundw
          case rel => exact ⟨i + 1, by omega, by go_num, ⟨T, by rw [← HS.out]; exact hM3, hB3⟩, hb3⟩
          case measure => simp [intOf]; omega
        · rw [if_neg hT]
          have hTf : T k = false := by simpa using hT
          have hcT := hB3.cell hk
          rw [hTf] at hcT
          have hfr := hB3.free (o := k)
          have HB := Lib.hid (hB3.set k true)
          have HM := Lib.hid (hM3.mod (((Mod.refl (fun x => x = bt) w3).setCell ⟨bt, k, none⟩ (.bool true) (fun _ => rfl))) (by omega))
          have HW := Lib.hid (hb3.setCell (p := ⟨bt, k, none⟩) (by show w0.heap.size ≤ bt; omega) (.bool true))
          clear hT hin hTf
          go_wp2
          go_roundw
          case rel => exact ⟨i + 1, by omega, by go_num, ⟨_, HM.out, HB.out⟩, HW.out⟩
          case measure => simp [intOf]; omega
      · have HT := Lib.hid (show holdT n T y = T by unfold holdT; rw [if_neg hin])
        rw [show holdA n T y = 2 by unfold holdA; rw [if_neg hin]]
        clear hin
        go_wp2
        go_roundw
        case rel => exact ⟨i + 1, by omega, by go_num, ⟨T, by rw [← HT.out]; exact hM3, hB3⟩, hb3⟩
        case measure => simp [intOf]; omega
    · by_cases hil : i < len
      case' pos =>
        have hil' : (i : Int) < (len : Int) := by omega
        have hi5' : (50 : Int) ≤ (i : Int) := by omega
      case' neg =>
        have hil' : (len : Int) ≤ (i : Int) := by omega
        have hi5' : True := trivial
      all_goals
        clear hgo hil
        go_wp2_with fail
        refine (copy_any wr _ n T hM).mono ?_
        rintro e w3 ⟨c, rfl, hC, hcge, hb3⟩
        clear hil' hi5'
        have hbtr : bt < wr.heap.size := hB.lt
        have hM3 : MapAt w3 w0.heap.size n T := hM.below hb3 hM.lt
        have hB3 : BoolsAt w3 bt n T := (hb3.block bt hbtr).trans hB
        have hb03 : Below w0.heap.size w0 w3 := hbr.trans (hb3.mono hbr.size)
        clear hb3 hM hB hbr
        go_wp2_with fail
        refine (free_any w3 c n T hC).mono ?_
        rintro e w4 ⟨rfl, hw4⟩
        obtain rfl := hw4.symm
        clear hw4
        go_wp2
        have hcbt : bt < c := by omega
        go_loopw [11] (fun _ wq => (∃ U, MapAt wq w0.heap.size n U ∧ BoolsAt wq bt n U) ∧ MapAt wq c n T ∧ Below w0.heap.size w0 wq) (fun _ wq => freeIn wq bt n)
        case atStart => exact ⟨⟨T, hM3, hB3⟩, hC, hb03⟩
        case round =>
          obtain ⟨⟨U, hMq, hBq⟩, hCq, hbq⟩ := hrel
          have hcu := cnt_le U n
          by_cases hfull : cnt U n = n
          · have hl := least_none hfull
            have hV : takeV n U = .tuple #[.int .i64 (-1), .int .i64 8] := by unfold takeV; rw [hl, if_neg (Nat.lt_irrefl _)]
            have hF : (n : Int) - (cnt U n : Int) = 0 := by omega
            clear hfull hl
            go_wp2_with fail
            refine (free_any wr _ n U hMq).mono ?_
            rintro e w4 ⟨he, hw4⟩
            rw [hF] at he
            subst he
            obtain rfl := hw4.symm
            clear hw4
            go_wp2_with fail
            refine (take_any wr _ n U hMq).mono ?_
            rintro e w5 ⟨he, hM5, hm5⟩
            rw [hV] at he
            subst he
            have hC5 : MapAt w5 c n T := hCq.mod hm5 (by omega)
            have hb5 : Below w0.heap.size w0 w5 := hbq.trans (hm5.below hbq.size (fun x hx he => by omega))
            clear hm5 hM5 hbq hCq
            go_wp2_with fail
            refine (free_any w5 c n T hC5).mono ?_
            rintro e w6 ⟨rfl, hw6⟩
            obtain rfl := hw6.symm
            clear hw6
            go_wp2_with fail
            refine (lives_any w5).mono ?_
            rintro e w7 ⟨rfl, hb7⟩
            go_wp2
            go_ret
            exact ⟨rfl, hb5.trans (hb7.mono hb5.size)⟩
          · obtain ⟨hl1, hl2⟩ := least_some (show cnt U n < n by omega)
            have hV : takeV n U = .tuple #[.int .i64 (least n U), .int .i64 0] := by unfold takeV; rw [if_pos hl1]
            have hT : takeT n U = setB U (least n U) true := by unfold takeT; rw [if_pos hl1]
            have hcs := cnt_set U true hl1
            rw [hl2] at hcs
            have hcs' : cnt (setB U (least n U) true) n = cnt U n + 1 := by simpa using hcs
            have hcB := hBq.cell hl1
            rw [hl2] at hcB
            generalize least n U = k at *
            have hF : (0 : Int) < (n : Int) - (cnt U n : Int) := by omega
            have hk' : (k : Int) < (n : Int) := by omega
            have hk0 : (0 : Int) ≤ (k : Int) := by omega
            clear hcs hl2
            go_wp2_with fail
            refine (free_any wr _ n U hMq).mono ?_
            rintro e w4 ⟨rfl, hw4⟩
            obtain rfl := hw4.symm
            clear hw4
            go_wp2_with fail
            refine (free_any wr _ n U hMq).mono ?_
            rintro e w4 ⟨rfl, hw4⟩
            obtain rfl := hw4.symm
            clear hw4
            go_wp2_with fail
            refine (take_any wr _ n U hMq).mono ?_
            rintro e w5 ⟨he, hM5, hm5⟩
            rw [hV] at he
            subst he
            rw [hT] at hM5
            have hC5 : MapAt w5 c n T := hCq.mod hm5 (by omega)
            have hB5 : BoolsAt w5 bt n U := hBq.mod hm5 (by omega)
            have hb5 : Below w0.heap.size w0 w5 := hbq.trans (hm5.below hbq.size (fun x hx he => by omega))
            have hcB5 : w5.cell? ⟨bt, k, none⟩ = some (.bool false) := by
              have := hB5.cell hl1
              rwa [show U k = false by
                have h := hBq.cell hl1
                rw [hcB] at h
                simpa using h.symm] at this
            have hfr := hB5.free (o := k)
            have HB := Lib.hid (hB5.set k true)
            have HM := Lib.hid (hM5.mod (((Mod.refl (fun x => x = bt) w5).setCell ⟨bt, k, none⟩ (.bool true) (fun _ => rfl))) (by omega))
            have HC := Lib.hid (hC5.mod (((Mod.refl (fun x => x = bt) w5).setCell ⟨bt, k, none⟩ (.bool true) (fun _ => rfl))) (by omega))
            have HW := Lib.hid (hb5.setCell (p := ⟨bt, k, none⟩) (by show w0.heap.size ≤ bt; omega) (.bool true))
            have HQ := Lib.hid (show freeIn (w5.setCell ⟨bt, k, none⟩ (.bool true)) bt n < freeIn wr bt n by
              rw [freeIn_eq hBq, freeIn_eq (hB5.set k true), hcs']
              omega)
            have hV2 : (n : Int) - (cnt (setB U k true) n : Int) = (n : Int) - (cnt U n : Int) - 1 := by omega
            clear hBq hMq hCq hbq hm5 hcB hT hV hC5 hB5 hb5
            go_wp2_with fail
            refine (free_any w5 _ n _ hM5).mono ?_
            rintro e w4 ⟨he, hw4⟩
            rw [hV2] at he
            subst he
            obtain rfl := hw4.symm
            clear hw4
            go_wp2
            go_roundw
            case rel => exact ⟨⟨_, HM.out, HB.out⟩, HC.out, HW.out⟩
            case measure => exact HQ.out

end Go.Proofs.Ytghfaiojmpchgaa
