/- Walks of OnesCount64, Free, New, Copy of the map of homes. -/
import Derived.Test.YtghfaiojmpchgaaWb
import Derived.Test.YtghfaiojmpchgaaLen
namespace Go.Proofs.Ytghfaiojmpchgaa
open Go.RowKit Go.Tn Go.Tn.Bits

theorem bits_and_i64 (x y : Nat) (hx : x < 9223372036854775808) (hy : y < 9223372036854775808) : bits .and .i64 (x : Int) (y : Int) = ((x &&& y : Nat) : Int) := by
  have h : x &&& y < 9223372036854775808 := Nat.lt_of_le_of_lt Nat.and_le_left hx
  unfold Go.bits
  simp only [BitVec.ofInt_natCast]
  rw [BitVec.toNat_and, BitVec.toNat_ofNat, BitVec.toNat_ofNat]
  rw [Nat.mod_eq_of_lt (show x < 2 ^ IntKind.i64.bits from Nat.lt_trans hx (by decide)), Nat.mod_eq_of_lt (show y < 2 ^ IntKind.i64.bits from Nat.lt_trans hy (by decide))]
  simp [IntKind.wrap, IntKind.bits, IntKind.signed]
  omega

theorem wrap64_nat (g : Nat) (h : g < 9223372036854775808) : wrap64 (g : Int) = (g : Int) := by unfold wrap64; omega

theorem ones_any (w : World) (f : Nat → Bool) : Calls Try.prog 30 #[.int .u64 (num f 64 : Nat)] w fun e w' => e = .returned (.int .i64 (cnt f 64)) ∧ w' = w := by
  obtain ⟨h1, h2, h3, h4, h5, h6, h7⟩ := ones_eq f
  have hx : num f 64 < 18446744073709551616 := num_lt f 64
  generalize num f 64 = x at *
  have A : IntKind.u64.wrap (bits .and .u64 ((x : Int) / 2) 6148914691236517205 + bits .and .u64 (x : Int) 6148914691236517205) = (((x / 2 &&& 6148914691236517205) + (x &&& 6148914691236517205) : Nat) : Int) := by
    rw [show ((x : Int) / 2) = ((x / 2 : Nat) : Int) by omega, show (6148914691236517205 : Int) = ((6148914691236517205 : Nat) : Int) from rfl, bits_and _ _ (by omega) (by decide), bits_and _ _ hx (by decide), ← Int.natCast_add]
    exact wrap_u64 _ h1
  generalize (x / 2 &&& 6148914691236517205) + (x &&& 6148914691236517205) = a at *
  have B : IntKind.u64.wrap (bits .and .u64 ((a : Int) / 4) 3689348814741910323 + bits .and .u64 (a : Int) 3689348814741910323) = (((a / 4 &&& 3689348814741910323) + (a &&& 3689348814741910323) : Nat) : Int) := by
    rw [show ((a : Int) / 4) = ((a / 4 : Nat) : Int) by omega, show (3689348814741910323 : Int) = ((3689348814741910323 : Nat) : Int) from rfl, bits_and _ _ (by omega) (by decide), bits_and _ _ h1 (by decide), ← Int.natCast_add]
    exact wrap_u64 _ h2
  generalize (a / 4 &&& 3689348814741910323) + (a &&& 3689348814741910323) = b at *
  have C : bits .and .u64 (IntKind.u64.wrap ((b : Int) / 16 + (b : Int))) 1085102592571150095 = (((b / 16 + b) &&& 1085102592571150095 : Nat) : Int) := by
    rw [show ((b : Int) / 16 + (b : Int)) = ((b / 16 + b : Nat) : Int) by omega, wrap_u64 _ h3, show (1085102592571150095 : Int) = ((1085102592571150095 : Nat) : Int) from rfl, bits_and _ _ h3 (by decide)]
  generalize (b / 16 + b) &&& 1085102592571150095 = c at *
  have D : IntKind.u64.wrap ((c : Int) + (c : Int) / 256) = ((c + c / 256 : Nat) : Int) := by
    rw [show ((c : Int) + (c : Int) / 256) = ((c + c / 256 : Nat) : Int) by omega, wrap_u64 _ h4]
  generalize c + c / 256 = d at *
  have E : IntKind.u64.wrap ((d : Int) + (d : Int) / 65536) = ((d + d / 65536 : Nat) : Int) := by
    rw [show ((d : Int) + (d : Int) / 65536) = ((d + d / 65536 : Nat) : Int) by omega, wrap_u64 _ h5]
  generalize d + d / 65536 = e at *
  have F : IntKind.u64.wrap ((e : Int) + (e : Int) / 4294967296) = ((e + e / 4294967296 : Nat) : Int) := by
    rw [show ((e : Int) + (e : Int) / 4294967296) = ((e + e / 4294967296 : Nat) : Int) by omega, wrap_u64 _ (by omega)]
  generalize e + e / 4294967296 = g at *
  have G : bits .and .i64 (wrap64 (g : Int)) 127 = (cnt f 64 : Int) := by
    rw [wrap64_nat g h6, show (127 : Int) = ((127 : Nat) : Int) from rfl, bits_and_i64 _ _ h6 (by decide), ← h7]
    congr 1
    exact Nat.and_two_pow_sub_one_eq_mod g 7
  clear h1 h2 h3 h4 h5 h6 h7 hx
  generalize cnt f 64 = n at *
  go_enter Try.func30, Try.ntmps30
  go_wp2
  go_ret
  exact ⟨rfl, rfl⟩

def wordsArr (T : Nat → Bool) : Array Value := ((List.range 16).map fun k => Value.int .u64 (wd T k)).toArray
theorem wordsArr_size (T : Nat → Bool) : (wordsArr T).size = 16 := by simp [wordsArr]
theorem wordsArr_get (T : Nat → Bool) {k : Nat} (h : k < 16) : (wordsArr T)[k]? = some (.int .u64 (wd T k)) := by simp [wordsArr, h]
theorem MapAt.lies {w : World} {b n : Nat} {T : Nat → Bool} (h : MapAt w b n T) : Lies w b 1 (wordsArr T) := by
  intro j hj
  have hj' : j < 16 := by rw [wordsArr_size] at hj; exact hj
  rw [h.w_ hj']
  have := wordsArr_get T hj'
  rw [Array.getElem?_eq_getElem hj] at this
  exact this.symm
theorem MapAt.all {w : World} {b n : Nat} {T : Nat → Bool} (h : MapAt w b n T) : Lies w b 0 (mapCells n T) := lies_of h.blk
theorem aggWords (T : Nat → Bool) : AggT Try.prog 51 (wordsArr T).size := ⟨⟨_, Try.underlying51, rfl⟩, by rw [wordsArr_size]; kernel_rfl⟩
theorem aggMap (n : Nat) (T : Nat → Bool) : AggT Try.prog 53 (mapCells n T).size := ⟨⟨_, Try.underlying53, rfl⟩, by rw [mapCells_size]; kernel_rfl⟩

/-- The words' ones, up to word k. -/
theorem cnt_words (T : Nat → Bool) (k : Nat) : cnt T (64 * (k + 1)) = cnt T (64 * k) + cnt (fun j => T (64 * k + j)) 64 := by
  rw [show 64 * (k + 1) = 64 * k + 64 by omega, cnt_add]
theorem cnt_out {T : Nat → Bool} {n : Nat} (h : ∀ i, n ≤ i → T i = false) {m : Nat} (hm : n ≤ m) : cnt T m = cnt T n := by
  obtain ⟨d, rfl⟩ := Nat.exists_eq_add_of_le hm
  rw [cnt_add, cnt_zero _ (fun j => h (n + j) (by omega))]
  omega

set_option maxHeartbeats 1000000 in
theorem free_any (w : World) (b n : Nat) (T : Nat → Bool) (hM : MapAt w b n T) : Calls Try.prog 11 #[.pointer (some ⟨b, 0, none⟩)] w
    fun e w' => e = .returned (.int .i64 ((n : Int) - cnt T n)) ∧ w' = w := by
  have c := hM.n_
  have hl := hM.lies
  have hle := hM.le
  go_enter Try.func11, Try.ntmps11
  go_wp2_with (first
    | (go_at_call 29; refine (ok_any _ b n T hM).mono ?_; rintro e w ⟨rfl, rfl⟩)
    | ((with_reducible refine wpList_loadA (aggWords T) hl ?_ ?_); rfl; go_frame)
    | fail)
  go_loopw [3, 17] (fun o c wr => ∃ k : Nat, k ≤ 16 ∧ c = .int .i64 k ∧ o = .int .i64 ((n : Int) - cnt T (64 * k)) ∧ wr = w) (fun _ c _ => 16 - (intOf c).toNat)
  case atStart => exact ⟨0, Nat.zero_le _, rfl, by simp [cnt], rfl⟩
  case round =>
    obtain ⟨k, hk, rfl, rfl, rfl⟩ := hrel
    by_cases hlt : k < 16
    · have hlt' : (k : Int) < 16 := by omega
      have hg := wordsArr_get T hlt
      have hsz := wordsArr_size T
      have hon := fun w => ones_any w (fun j => T (64 * k + j))
      have hcw := cnt_words T k
      have hb1 := cnt_le T (64 * k)
      have hb2 := cnt_le (fun j => T (64 * k + j)) 64
      go_wp2_with (first
        | (go_at_call 30; refine (hon _).mono ?_; rintro e w2 ⟨rfl, hw2⟩; obtain rfl := hw2.symm; clear hw2)
        | ((with_reducible refine wpList_exec rfl (exec_index1 Try.underlying51 scalar64 size64 (k := .i64) (i := k) ?_ ?_ hlt hg) ?_); rfl; rfl; go_frame)
        | fail)
      go_roundw
      case rel => exact ⟨k + 1, by omega, by go_num, by rw [hcw]; go_num, by first | rfl | trivial⟩
      case measure => simp [intOf]; omega
    · obtain rfl : k = 16 := by omega
      go_wp2
      go_ret
      exact ⟨by rw [show 64 * 16 = 1024 from rfl, cnt_out hM.out hM.le]; rfl, rfl⟩

theorem new_cells (n : Nat) (w : World) : (Instr.build 53 #[(0, .int .i64 n)]).run Try.prog w = .ok (.agg (mapCells n (fun _ => false))) w := by kernel_rfl

theorem new_any (w : World) (n : Nat) (h1 : 1 ≤ n) (h2 : n ≤ 1024) : Calls Try.prog 8 #[.int .i64 n] w
    fun e w' => e = .returned (.tuple #[.pointer (some ⟨w.heap.size, 0, none⟩), .int .i64 0]) ∧ w' = w.alloc (.cells (mapCells n (fun _ => false)) 53) := by
  go_enter Try.func8, Try.ntmps8
  go_wp2_with (first
    | ((with_reducible refine wpList_exec rfl (exec_build (vals := #[(0, .int .i64 n)]) ?_ (new_cells n _)) ?_); rfl; go_frame)
    | fail)
  go_ret2
  exact ⟨rfl, rfl⟩
theorem new_no (w : World) (n : Int) (h : ¬ (1 ≤ n ∧ n ≤ 1024)) : Calls Try.prog 8 #[.int .i64 n] w
    fun e w' => e = .returned (.tuple #[.pointer none, .int .i64 2]) ∧ w' = w := by
  by_cases h1 : n < 1
  · go_enter Try.func8, Try.ntmps8
    go_wp2
    go_ret2
    exact ⟨rfl, rfl⟩
  · have h2 : 1024 < n := by omega
    go_enter Try.func8, Try.ntmps8
    go_wp2
    go_ret2
    exact ⟨rfl, rfl⟩
theorem MapAt.new {w : World} {n : Nat} (h1 : 1 ≤ n) (h2 : n ≤ 1024) : MapAt (w.alloc (.cells (mapCells n (fun _ => false)) 53)) w.heap.size n (fun _ => false) :=
  ⟨heap_alloc_at, h1, h2, fun _ _ => rfl⟩

theorem mapCells_one (n : Nat) (T : Nat → Bool) : (mapCells n T).all (·.oneCell') = true := by
  rw [Array.all_eq_true']
  intro x hx
  simp [mapCells] at hx
  rcases hx with rfl | ⟨k, _, rfl⟩ <;> rfl

theorem copy_any (w : World) (b n : Nat) (T : Nat → Bool) (hM : MapAt w b n T) : Calls Try.prog 10 #[.pointer (some ⟨b, 0, none⟩)] w
    fun e w' => ∃ c, e = .returned (.pointer (some ⟨c, 0, none⟩)) ∧ MapAt w' c n T ∧ w.heap.size ≤ c ∧ Below w.heap.size w w' := by
  have hall := hM.all
  have hone := mapCells_one n T
  have hsz := mapCells_size n T
  go_enter Try.func10, Try.ntmps10
  go_wp2_with (first
    | (go_at_call 29; refine (ok_any _ b n T hM).mono ?_; rintro e w ⟨rfl, rfl⟩)
    | ((with_reducible refine wpList_loadA (aggMap n T) hall ?_ ?_); rfl; go_frame)
    | ((with_reducible refine wpList_storeA_new (aggMap n T) ?_ hone ?_ ?_ ?_); exact hsz.symm; rfl; rfl; go_frame)
    | fail)
  go_ret
  exact ⟨_, rfl, ⟨heap_alloc_at, hM.pos, hM.le, hM.out⟩, Nat.le_refl _, (Below.refl _ _).alloc (Nat.le_refl _) _⟩

theorem lead_any (w : World) (f : Nat → Bool) : Calls Try.prog 31 #[.int .u64 (num f 64 : Nat)] w fun e w' => e = .returned (.int .i64 (fst f 64)) ∧ w' = w := by
  have hx : num f 64 < 18446744073709551616 := num_lt f 64
  refine (Try.bits_LeadingZeros64 (num f 64 : Nat) w (by omega) (by omega)).mono ?_
  rintro e w' ⟨rfl, rfl⟩
  have hle := fst_le f 64
  rw [Int.toNat_natCast, bitLen_num f (Nat.le_refl 64)]
  exact ⟨by rw [show (64 : Int) - ((64 - fst f 64 : Nat) : Int) = (fst f 64 : Int) by omega], rfl⟩

theorem wd_not (T : Nat → Bool) (k : Nat) : bits .xor .u64 IntKind.u64.max (wd T k : Int) = ((num (fun j => !T (64 * k + j)) 64 : Nat) : Int) := by
  rw [show IntKind.u64.max = ((18446744073709551615 : Nat) : Int) from rfl, bits_xor _ _ (by decide) (wd_lt T k)]
  refine congrArg (fun x : Nat => (x : Int)) ?_
  apply Nat.eq_of_testBit_eq
  intro j
  unfold wd
  rw [Nat.testBit_xor, testBit_num, testBit_num, show (18446744073709551615 : Nat) = 2 ^ 64 - 1 from rfl, Nat.testBit_two_pow_sub_one]
  by_cases hj : j < 64 <;> simp [hj]

/-- The least home that is free, or n. -/
def least (n : Nat) (T : Nat → Bool) : Nat := fst (fun i => !T i) n
def takeV (n : Nat) (T : Nat → Bool) : Value := if least n T < n then .tuple #[.int .i64 (least n T), .int .i64 0] else .tuple #[.int .i64 (-1), .int .i64 8]
def takeT (n : Nat) (T : Nat → Bool) : Nat → Bool := if least n T < n then setB T (least n T) true else T

set_option maxHeartbeats 1000000 in
theorem take_any (w : World) (b n : Nat) (T : Nat → Bool) (hM : MapAt w b n T) : Calls Try.prog 12 #[.pointer (some ⟨b, 0, none⟩)] w
    fun e w' => e = .returned (takeV n T) ∧ MapAt w' b n (takeT n T) ∧ Mod (fun x => x = b) w w' := by
  have c := hM.n_
  have hl := hM.lies
  have hle := hM.le
  go_enter Try.func12, Try.ntmps12
  go_wp2_with (first
    | (go_at_call 29; refine (ok_any _ b n T hM).mono ?_; rintro e w ⟨rfl, rfl⟩)
    | ((with_reducible refine wpList_loadA (aggWords T) hl ?_ ?_); rfl; go_frame)
    | fail)
  go_loopw [14] (fun c wr => ∃ k : Nat, k ≤ 16 ∧ c = .int .i64 k ∧ (∀ i, i < 64 * k → T i = true) ∧ wr = w) (fun c _ => 16 - (intOf c).toNat)
  case atStart => exact ⟨0, Nat.zero_le _, rfl, fun i hi => by omega, rfl⟩
  case round =>
    obtain ⟨k, hk, rfl, hall, rfl⟩ := hrel
    by_cases hlt : k < 16
    · have hlt' : (k : Int) < 16 := by omega
      have hg := wordsArr_get T hlt
      have hsz := wordsArr_size T
      have hx := wd_not T k
      have hx2 : bits .xor .u64 (if IntKind.u64.signed = true then -1 else IntKind.u64.max) (wd T k : Int) = ((num (fun j => !T (64 * k + j)) 64 : Nat) : Int) := hx
      have hlead := fun w => lead_any w (fun j => !T (64 * k + j))
      have hfl := fst_le (fun j => !T (64 * k + j)) 64
      have hfn : ∀ j, j < fst (fun j => !T (64 * k + j)) 64 → T (64 * k + j) = true := fun j hj => by simpa using fst_none (f := fun j => !T (64 * k + j)) hj
      have hfs : fst (fun j => !T (64 * k + j)) 64 < 64 → T (64 * k + fst (fun j => !T (64 * k + j)) 64) = false := fun hj => by simpa using fst_some (f := fun j => !T (64 * k + j)) hj
      generalize fst (fun j => !T (64 * k + j)) 64 = f at *
      generalize num (fun j => !T (64 * k + j)) 64 = x at *
      by_cases hge : n ≤ 64 * k + f
      · have hge' : (n : Int) ≤ (k : Int) * 64 + f := by omega
        have hfull : least n T = n := fst_full fun j hj => by
          by_cases h1 : j < 64 * k
          · simp [hall j h1]
          · have := hfn (j - 64 * k) (by omega)
            rw [show 64 * k + (j - 64 * k) = j by omega] at this
            simp [this]
        have HV := Lib.hid (show takeV n T = .tuple #[.int .i64 (-1), .int .i64 8] ∧ takeT n T = T by unfold takeV takeT; rw [hfull]; simp)
        clear hall hfn hfs hfull
        go_wp2_with (first
          | (go_at_call 31; (first | refine (hlead _).mono ?_ | (rw [hx2]; refine (hlead _).mono ?_)); rintro e w2 ⟨rfl, hw2⟩; obtain rfl := hw2.symm; clear hw2)
          | ((with_reducible refine wpList_exec rfl (exec_index1 Try.underlying51 scalar64 size64 (k := .i64) (i := k) ?_ ?_ hlt hg) ?_); rfl; rfl; go_frame)
          | fail)
        go_ret2
        exact ⟨by rw [HV.out.1]; rfl, by rw [HV.out.2]; exact hM, Mod.refl _ _⟩
      · by_cases hf : f < 64
        · have hge' : ((k : Int) * 64 + f) < (n : Int) := by omega
          have hlt2 : ((k : Int) * 64 + f) < ((k : Int) + 1) * 64 := by omega
          have hl0 : least n T = 64 * k + f := fst_eq (fun j hj => by
            by_cases h1 : j < 64 * k
            · simp [hall j h1]
            · have := hfn (j - 64 * k) (by omega)
              rw [show 64 * k + (j - 64 * k) = j by omega] at this
              simp [this]) (by simp [hfs hf]) (by omega)
          have HV := Lib.hid (show takeV n T = .tuple #[.int .i64 ((k : Int) * 64 + f), .int .i64 0] ∧ takeT n T = setB T (64 * k + f) true by
            unfold takeV takeT; rw [hl0, if_pos (by omega), if_pos (by omega)]
            refine ⟨?_, rfl⟩
            rw [show ((64 * k + f : Nat) : Int) = (k : Int) * 64 + f by omega])
          have hbit : ∀ w, Calls Try.prog 32 #[.int .i64 ((k : Int) * 64 + f)] w fun e w' => e = .returned (.int .u64 ((2 ^ (63 - (64 * k + f) % 64) : Nat) : Int)) ∧ w' = w := fun w => by
            rw [show (k : Int) * 64 + f = ((64 * k + f : Nat) : Int) by omega]; exact bit_any w _
          have hor := wd_or T (64 * k + f)
          rw [show (64 * k + f) / 64 = k by omega] at hor
          have hcell := hM.w_ (k := k) (by omega)
          have hfree := hM.free (o := 1 + k)
          have HS := Lib.hid (show ∀ w, MapAt w b n T → MapAt (w.setCell ⟨b, 1 + k, none⟩ (.int .u64 (wd (setB T (64 * k + f) true) k))) b n (setB T (64 * k + f) true) from fun w hw => by
            refine cell_set hw hlt (fun j _ hj => wd_other T (64 * k + f) _ (by omega)) (fun j hj => ?_)
            rw [setB_ne T _ (by omega)]; exact hM.out j hj)
          clear hall hfn hfs hl0
          generalize 2 ^ (63 - (64 * k + f) % 64) = p at *
          generalize wd T k = y at *
          generalize wd (setB T (64 * k + f) true) k = z at *
          have hk0 : (0 : Int) ≤ (k : Int) := by omega
          have hkn : ((k : Nat) : Int).toNat = k := by simp
          go_upto_region 9 with (first
            | (go_at_call 31; (first | refine (hlead _).mono ?_ | (rw [hx2]; refine (hlead _).mono ?_)); rintro e w2 ⟨rfl, hw2⟩; obtain rfl := hw2.symm; clear hw2)
            | ((with_reducible refine wpList_exec rfl (exec_index1 Try.underlying51 scalar64 size64 (k := .i64) (i := k) ?_ ?_ hlt hg) ?_); rfl; rfl; go_frame)
            | fail)
          refine wp_region_x (fun w' => w'.cell? ⟨b, 1 + k, none⟩ = some (.int .u64 y)) [(0, 1), (1, 1), (2, 1), (3, 1), (4, 1), (5, 0), (6, 1), (9, 1), (10, 1), (7, 2), (8, 1), (11, 1), (12, 3)] (by kernel_rfl) (by kernel_rfl) (by intro d v c a w h; cases d <;> exact h) ?_
          iterate 5 (refine x_take rfl (fun K hK => ?_); go_simp; refine hK _ ?_; clear hK K)
          refine x_read rfl hcell (fun w' h => exec_load1 scalar64 rfl h) ?_
          iterate 3 (refine x_take rfl (fun K hK => ?_); go_simp; refine hK _ ?_; clear hK K)
          refine x_show' rfl (fun K hK => ?_)
          go_simp
          refine (hbit _).mono ?_
          rintro e w3 ⟨rfl, hw3⟩
          obtain rfl := hw3.symm
          clear hw3
          refine hK _ _ hcell ?_
          clear hK K
          iterate 2 (refine x_take rfl (fun K hK => ?_); go_simp; refine hK _ ?_; clear hK K)
          refine x_skip rfl (exec_store1 scalar64 size64 rfl rfl rfl hcell hM.free) ?_
          refine x_nil ?_
          go_wp2
          go_ret2
          exact ⟨by rw [HV.out.1]; rfl, by rw [HV.out.2]; exact HS.out _ hM.drew, ((Mod.refl _ wr).drewN 1).setCell _ _ (fun _ => rfl)⟩
        · have hf64 : f = 64 := by omega
          have hge' : ((k : Int) * 64 + f) < (n : Int) := by omega
          have hge2 : ((k : Int) + 1) * 64 ≤ ((k : Int) * 64 + f) := by omega
          have HA := Lib.hid (show ∀ i, i < 64 * (k + 1) → T i = true from fun i hi => by
            by_cases h1 : i < 64 * k
            · exact hall i h1
            · have := hfn (i - 64 * k) (by omega)
              rwa [show 64 * k + (i - 64 * k) = i by omega] at this)
          clear hall hfn hfs
          go_wp2_with (first
            | (go_at_call 31; (first | refine (hlead _).mono ?_ | (rw [hx2]; refine (hlead _).mono ?_)); rintro e w2 ⟨rfl, hw2⟩; obtain rfl := hw2.symm; clear hw2)
            | ((with_reducible refine wpList_exec rfl (exec_index1 Try.underlying51 scalar64 size64 (k := .i64) (i := k) ?_ ?_ hlt hg) ?_); rfl; rfl; go_frame)
            | fail)
          go_roundw
          case rel => exact ⟨k + 1, by omega, by go_num, HA.out, by first | rfl | trivial⟩
          case measure => simp [intOf]; omega
    · obtain rfl : k = 16 := by omega
      have hfull : least n T = n := fst_full fun j hj => by simp [hall j (by omega)]
      have HV := Lib.hid (show takeV n T = .tuple #[.int .i64 (-1), .int .i64 8] ∧ takeT n T = T by unfold takeV takeT; rw [hfull]; simp)
      clear hall hfull
      go_wp2
      go_ret2
      exact ⟨by rw [HV.out.1]; rfl, by rw [HV.out.2]; exact hM, Mod.refl _ _⟩

end Go.Proofs.Ytghfaiojmpchgaa
