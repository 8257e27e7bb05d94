/- Blocks that are kept: Open: walked. -/
import Derived.Test.YtldimgchpgoggaaGreatMgQuo29
import Derived.Test.YtldimgchpgoggaaGreatMgQuo7
import Derived.Test.YtldimgchpgoggaaGreatMgQuo4
/- Blocks that are kept: the number as a sector; SetNumber: walked. -/
namespace Go.Tn.Pc
open Go.Tn Go.Tn.Slo Go.Tn.Ck Go.Tn.Dk Go.Tn.Lp
/-- A number's sector, its last k bytes laid. -/
def numL (x : Nat) : Nat → List Nat
  | 0 => List.replicate 128 0
  | k + 1 => (numL x k).set (127 - k) (x / 256 ^ k % 256)
def numSec (x : Nat) : List Nat := numL x 8
theorem numL_len (x : Nat) : ∀ k, (numL x k).length = 128
  | 0 => by simp [numL]
  | k + 1 => by simp [numL, numL_len x k]
theorem numL_lt (x : Nat) : ∀ k, ∀ c ∈ numL x k, c < 256
  | 0, c, h => by rw [List.eq_of_mem_replicate h]; decide
  | k + 1, c, h => by
    rcases List.mem_or_eq_of_mem_set h with h | h
    · exact numL_lt x k c h
    · rw [h]; exact Nat.mod_lt _ (by decide)
set_option maxRecDepth 20000 in
theorem numSec_eq (x : Nat) : numSec x = List.replicate 120 0 ++ bytesN x 8 := rfl
theorem numSec_len (x : Nat) : (numSec x).length = 128 := numL_len x 8
theorem numSec_lt (x : Nat) : ∀ c ∈ numSec x, c < 256 := numL_lt x 8
theorem numSec_take (x : Nat) : (numSec x).take 120 = List.replicate 120 0 := by
  rw [numSec_eq, List.take_append_of_le_length (by simp), List.take_of_length_le (by simp)]
theorem numSec_drop (x : Nat) : (numSec x).drop 120 = bytesN x 8 := by
  rw [numSec_eq, List.drop_append_of_le_length (by simp), List.drop_of_length_le (by simp), List.nil_append]
theorem numOf_bytesN (x : Nat) : ∀ n (y : Nat), (bytesN x n).foldl (fun a c => a * 256 + c) y = y * 256 ^ n + x % 256 ^ n
  | 0, y => by simp [bytesN, Nat.mod_one]
  | n + 1, y => by
    rw [bytesN, List.foldl_cons, numOf_bytesN x n]
    have h1 : x % 256 ^ (n + 1) = x % 256 ^ n + 256 ^ n * (x / 256 ^ n % 256) := by rw [Nat.pow_succ]; exact Nat.mod_mul
    rw [h1, Nat.pow_succ, Nat.add_mul, Nat.mul_assoc, Nat.mul_comm 256 (256 ^ n), Nat.mul_comm (x / 256 ^ n % 256)]
    omega
theorem numSec_num {x : Nat} (h : x < 18446744073709551616) : numOf ((numSec x).drop 120) = x := by
  rw [numSec_drop]
  unfold numOf
  rw [numOf_bytesN]
  omega
/-- The number is another one. -/
def PC.setNumD (c : PC) (l : Lg) (d : Dsk) (x : Nat) : PC × (Lg × Dsk × Nat) :=
  if (stWr l d [(0, numSec x)]).2.2 ≠ 0 then (c, stWr l d [(0, numSec x)])
  else (if (Go.Proofs.YtldimgchpgoggaaGreat.cSync (stWr l d [(0, numSec x)]).1 (stWr l d [(0, numSec x)]).2.1).2.2 = 0 then { c with num := x } else c, Go.Proofs.YtldimgchpgoggaaGreat.cSync (stWr l d [(0, numSec x)]).1 (stWr l d [(0, numSec x)]).2.1)
end Go.Tn.Pc
namespace Go.Proofs.YtldimgchpgoggaaGreat
open Go.RowKit Go.Tn Go.Tn.Bt Go.Tn.Lp Go.Tn.Dk Go.Tn.Ino Go.Tn.Slo Go.Tn.Ck Go.Tn.Pc
set_option maxRecDepth 20000 in
theorem psector_any (w : World) (x : Nat) (hx : x < 2 ^ 64) : Calls Tryz.prog 74 #[.int .u64 (x : Nat)] w fun e w' => ∃ r, e = .returned (.slice (some ⟨r, 0, none⟩) 128 128) ∧ Bk w' r (numSec x) ∧ w.heap.size ≤ r ∧ Below w.heap.size w w' := by
  obtain ⟨w1, hmk, hB1, hb1⟩ := make8 w 128 (by decide)
  have hr : w.heap.size < w1.heap.size := hB1.lt
  go_enter Tryz.func74, Tryz.ntmps74
  go_wp2_with (first
    | ((with_reducible refine wpList_exec rfl (hmk _ _ _ _ _ _ _ _ ?_ ?_) ?_); rfl; rfl; go_frame)
    | fail)
  clear hmk
  generalize hrr : w.heap.size = r at *
  go_loopw [0, 4] (fun xv iv wi => ∃ k : Nat, k ≤ 8 ∧ iv = .int .i64 (127 - (k : Int)) ∧ xv = .int .u64 (x / 256 ^ k : Nat) ∧ Bk wi r (numL x k) ∧ Mod (fun b => b = r) w1 wi) (fun _ iv _ => (intOf iv).toNat)
  case atStart => exact ⟨0, Nat.zero_le _, rfl, by rw [Nat.pow_zero, Nat.div_one], hB1, Mod.refl _ _⟩
  case round =>
    obtain ⟨k, hk, rfl, rfl, hb, hm⟩ := hrel
    by_cases hk8 : k < 8
    · have hk' : (k : Int) < 8 := by omega
      have hk0 : (0 : Int) ≤ k := by omega
      have hge : (120 : Int) ≤ 127 - (k : Int) := by omega
      have hix : (127 - (k : Int)).toNat = 127 - k := by omega
      have hlt : 127 - (k : Int) < 128 := by omega
      obtain ⟨old, hold⟩ : ∃ old, (numL x k)[127 - k]? = some old := ⟨_, List.getElem?_eq_getElem (by rw [numL_len]; omega)⟩
      have hcell := hb.cell hold
      have hfr := hb.free (127 - k)
      have hset := hb.set (127 - k) (x / 256 ^ k % 256)
      have hby : IntKind.u8.wrap (((x / 256 ^ k : Nat) : Int)) = ((x / 256 ^ k % 256 : Nat) : Int) := wrap8 _
      have hdv : ((x / 256 ^ k : Nat) : Int) / 256 = ((x / 256 ^ (k + 1) : Nat) : Int) := by
        rw [Nat.pow_succ, ← Nat.div_div_eq_div_mul]
        rfl
      have hmm := hm.setCell ⟨r, 127 - k, none⟩ (.int .u8 ((x / 256 ^ k % 256 : Nat) : Int)) (fun _ => rfl)
      have HM := Lib.hid hmm
      have HS := Lib.hid hset
      obtain ⟨y, hy⟩ : ∃ y, x / 256 ^ k = y := ⟨_, rfl⟩
      obtain ⟨z, hz⟩ : ∃ z, x / 256 ^ (k + 1) = z := ⟨_, rfl⟩
      have hy64 : y < 18446744073709551616 := by
        rw [← hy]
        exact Nat.lt_of_le_of_lt (Nat.div_le_self _ _) hx
      have hy64' : (y : Int) < 18446744073709551616 := by omega
      rw [hy] at hby hdv HM HS ⊢
      rw [hz] at hdv
      have HZ := Lib.hid hz
      have HY := Lib.hid hy
      clear hb hm hset hold hz hy hmm
      go_wp2
      refine ⟨⟨k + 1, by omega, by go_num, by rw [HZ.out], ?_, HM.out⟩, by simp [intOf]; omega⟩
      show Bk _ r ((numL x k).set (127 - k) (x / 256 ^ k % 256))
      rw [HY.out]
      exact HS.out
    · obtain rfl : k = 8 := by omega
      have hbf : Below r w wr := hb1.trans (hm.below (by have := hb1.size; omega) fun y hy e => by omega)
      have HB := Lib.hid hb
      have HBF := Lib.hid hbf
      clear hb hm hbf
      go_wp2
      go_ret
      exact ⟨r, rfl, HB.out, Nat.le_of_eq hrr, by rw [hrr]; exact HBF.out⟩
theorem pvalue_any (w : World) (v : Value) (bs : List Nat) (h : LSl en8 1 w v bs) (hlt : ∀ x ∈ bs, x < 256) (hl : bs.length ≤ 8) : Calls Tryz.prog 81 #[v] w
    fun e w' => e = .returned (.int .u64 (numOf bs : Nat)) ∧ w' = w := by
  obtain ⟨ao, cap, rfl, h1, h2, h3⟩ := h
  unfold maxLen at h2
  go_enter Tryz.func81, Tryz.ntmps81
  go_wp2
  go_loopw [3, 8] (fun xv jv wi => ∃ k : Nat, k ≤ bs.length ∧ jv = .int .i64 k ∧ xv = .int .u64 (numOf (bs.take k) : Nat) ∧ wi = w) (fun _ jv _ => bs.length - (intOf jv).toNat)
  case atStart => exact ⟨0, Nat.zero_le _, rfl, rfl, rfl⟩
  case round =>
    obtain ⟨k, hk, rfl, rfl, rfl⟩ := hrel
    by_cases hkl : k < bs.length
    · have hkl' : (k : Int) < (bs.length : Int) := by omega
      obtain ⟨c, hc⟩ : ∃ c, bs[k]? = some c := ⟨bs[k], List.getElem?_eq_getElem hkl⟩
      have hc8 := hlt c (List.mem_of_getElem? hc)
      have hc8' : (c : Int) < 256 := by omega
      obtain ⟨b, off, rfl, hbl, hcells⟩ := h3 (by omega)
      have hcell := hcells k c hc 0 (by simp)
      simp only [Nat.mul_one, Nat.add_zero] at hcell
      have HC : wr.cell? ⟨b, off + k, none⟩ = some (.int .u8 (c : Nat)) := hcell
      have hlen : (bs.take k).length = k := by rw [List.length_take]; omega
      have hX := numOf_lt k (bs.take k) hlen fun x hx => hlt x (List.mem_of_mem_take hx)
      have hnx : numOf (bs.take (k + 1)) = numOf (bs.take k) * 256 + c := by
        rw [List.take_add_one, hc]
        exact numOf_snoc _ _
      have h56 : 256 ^ k ≤ 256 ^ 7 := Nat.pow_le_pow_right (by decide) (by omega)
      obtain ⟨X, hXX⟩ : ∃ X, numOf (bs.take k) = X := ⟨_, rfl⟩
      rw [hXX] at hX hnx ⊢
      have hXlt : X < 72057594037927936 := Nat.lt_of_lt_of_le hX h56
      have hor : bits .or .u64 ((X : Int) * 256) (c : Int) = ((X * 256 + c : Nat) : Int) := by
        have h := or64 (X * 256) c (by omega) (by omega)
        rw [show X * 256 ||| c = X * 256 + c from or_add X c 8 (by omega)] at h
        rw [← h]
        rfl
      have hXi : (X : Int) < 72057594037927936 := by omega
      have HN := Lib.hid hnx
      clear hcell hcells hc hnx hXX hX h56 hlen
      go_wp2
      exact ⟨⟨k + 1, by omega, by go_num, by rw [HN.out]; rfl, trivial⟩, by simp [intOf]; omega⟩
    · obtain rfl : k = bs.length := by omega
      rw [List.take_length]
      go_wp2
      go_ret
      exact ⟨rfl, rfl⟩
section
variable {w w' : World} {F FD F' FD' : Nat → Prop} {A : CA} {l l' : Lg} {d d' : Dsk} {P P' : PC}
theorem CSt.cache {r : PC × (Lg × Dsk × Nat)} {w2 : World} (h : CPost w F FD A r.2 P (.returned (.int .i64 (r.2.2.2 : Nat))) w2) (e : r.1 = P) : CSt w F FD A r w2 := by
  have := h.st
  obtain ⟨P', r⟩ := r
  simp only at e
  subst e
  exact this
/-- The number's store. -/
theorem CAt.numbered (h : CAt w F FD A l d P) (x : Nat) (hx : x ≤ 1099511627775) : CAt (w.setCell ⟨A.c, 4, none⟩ (.int .u64 (x : Nat))) F FD A l d { P with num := x } ∧ Mod A.own w (w.setCell ⟨A.c, 4, none⟩ (.int .u64 (x : Nat))) := by
  have hm := (Mod.refl (fun b => b = A.c) w).setCell ⟨A.c, 4, none⟩ (.int .u64 ((x : Nat) : Int)) (fun _ => rfl)
  have hk : (w.setCell ⟨A.c, 4, none⟩ (.int .u64 (x : Nat))).heap[A.c]? = some (.cells (cacheC A { P with num := x }) 69 (0, 0)) := by
    rw [heap_setCell_at h.blk]
    rfl
  have hlog : LAt _ F A.g A.p l := h.log.mod hm (fun b hb (e : b = A.c) => (h.own b (.inl e)).1 hb)
  have hdsk : DAt _ FD A.p d := h.disk.mod hm (fun b hb (e : b = A.c) => (h.own b (.inl e)).2 hb)
  have hwh := h.wh.kept (hm.block _ h.wh.lt (fun e => h.ne.2.1 e.symm))
  refine ⟨⟨hk, hm.heap h.slots (fun e => h.ne.1 e.symm), ⟨hwh.ex⟩, h.ring.mod hm (fun e => h.ne.2.2.1 e.symm), hlog, hdsk, h.ap, h.own, h.ne, ⟨h.ok.len, h.ok.is, h.ok.uniq, h.ok.used⟩, hx⟩, hm.mono fun b _ e => .inl e⟩
set_option maxRecDepth 20000 in
set_option maxHeartbeats 4000000 in
theorem psetNumber_any (h : CAt w F FD A l d P) (hf : Fit l d) (x : Nat) (hx : x ≤ 1099511627775) : Calls Tryz.prog 33 #[.pointer (some ⟨A.c, 0, none⟩), .int .u64 (x : Nat)] w fun e w' => CW w F FD A (P.setNumD l d x) e w' := by
  have hok := pok_any h
  have hltw := h.lt
  have hx' : (x : Int) ≤ 1099511627775 := by omega
  have hse := psector_any w x (by omega)
  have HC := Lib.hid h
  have HF := Lib.hid hf
  have HX := Lib.hid hx
  have HLT := Lib.hid hltw
  clear h hf hltw hx
  go_enter Tryz.func33, Tryz.ntmps33
  go_wp2_with (first
    | (go_at_call 45; refine hok.mono ?_; rintro e wt ⟨rfl, hw⟩; obtain rfl := hw.symm; clear hw)
    | fail)
  refine hse.mono ?_
  rintro e w2 ⟨r, rfl, hB2, hr2, hb2⟩
  obtain ⟨w3, hw3⟩ : ∃ w3, w2.alloc (.cells #[.int .i64 0, .slice (some ⟨r, 0, none⟩) 128 128] 113) = w3 := ⟨_, rfl⟩
  have hb23 : Below w2.heap.size w2 w3 := by rw [← hw3]; exact (Below.refl _ _).alloc (Nat.le_refl _) _
  have hls : LSl enPt 2 w3 (.slice (some ⟨w2.heap.size, 0, none⟩) 1 1) [(((0 : Int), numSec x), (some ⟨r, 0, none⟩, 128, 128))] := by
    rw [← hw3]
    exact LSl.lit (w := w2) (x := ((((0 : Int), numSec x), (some ⟨r, 0, none⟩, 128, 128)) : Pt × Sv)) elPt.len 113
  have hbt : Tryz.prog.built 113 [(0, .int .i64 0), (1, .slice (some ⟨r, 0, none⟩) 128 128)] = some #[.int .i64 0, .slice (some ⟨r, 0, none⟩) 128 128] := by kernel_rfl
  have hB3 := hB2.below hb23
  have hb03 := hb2.trans (hb23.mono hb2.size)
  have hC3 := HC.out.below hb03
  have hpb : PtB w3 (fun b => F b ∨ FD b) (.slice (some ⟨w2.heap.size, 0, none⟩) 1 1) [(0, numSec x)] := by
    refine ⟨[(((0 : Int), numSec x), (some ⟨r, 0, none⟩, 128, 128))], rfl, hls, fun q hq => ?_, fun y hy => ?_⟩
    · have e : w2.heap.size = q := by cases hq; rfl
      refine ⟨fun h => ?_, ?_⟩
      · have := HLT.out q (h.elim (fun h => .inr (.inl h)) (fun h => .inr (.inr h)))
        have := hb2.size
        omega
      · have : w3.heap.size = w2.heap.size + 1 := by rw [← hw3]; simp
        omega
    · rw [List.mem_singleton.1 hy]
      refine ⟨?_, fun q hq => ?_⟩
      · have := hB3.sl (o := 0) (n := 128) (cap := 128) (by rw [numSec_len]; omega) (Nat.le_refl _) (by omega)
        rw [List.drop_zero, List.take_of_length_le (by rw [numSec_len]; omega)] at this
        exact this
      · have e : r = q := by cases hq; rfl
        refine ⟨fun h => ?_, ?_⟩
        · have := HLT.out q (h.elim (fun h => .inr (.inl h)) (fun h => .inr (.inr h)))
          omega
        · rw [← e]; exact hB3.lt
  obtain ⟨⟨l8, d8, cd⟩, hr8⟩ : ∃ r, stWr l d [(0, numSec x)] = r := ⟨_, rfl⟩
  have hwr : Calls Tryz.prog 65 #[.pointer (some ⟨A.c, 0, none⟩), .slice (some ⟨w2.heap.size, 0, none⟩) 1 1] w3 fun e w' => CPost w3 F FD A (l8, d8, cd) P e w' := by
    rw [← hr8]
    exact pwrite_any hC3 HF.out.ok _ [(0, numSec x)] hpb (fun q hq y hy => by rw [List.mem_singleton.1 hq] at hy; exact numSec_lt x y hy) (by simp) HF.out.Q (HF.out.ok2 _)
  have HR8 := Lib.hid hr8
  have HB03 := Lib.hid hb03
  clear hse hB2 hr2 hb2 hb23 hls hB3 hb03 hC3 hpb hr8 hok
  go_wp2_with (first
    | ((with_reducible refine wpList_exec rfl (exec_buildA (vals := [(0, .int .i64 0), (1, .slice (some ⟨r, 0, none⟩) 128 128)]) ?_ hbt) ?_); rfl; go_frame)
    | ((with_reducible refine wpList_exec rfl (exec_buildSliceA (k := 2) (cells := #[.int .i64 0, .slice (some ⟨r, 0, none⟩) 128 128]) Tryz.underlying117 (by kernel_rfl) (by omega) (by omega) rfl ?_) ?_); rfl; go_frame)
    | fail)
  simp only [hw3] at *
  clear hw3
  refine hwr.mono ?_
  rintro e w4 hp4
  have hst := CSt.ahead HB03.out hp4.st
  obtain ⟨he4, F4, FD4, hC4, hm4, h14, h24⟩ := hp4
  have he4 : e = .returned (.int .i64 (cd : Nat)) := he4
  subst he4
  by_cases h0 : cd = 0
  · subst h0
    have hsy := c_sync hC4
    have c0 := hC4.c0
    have f4 : w4.frozen? ⟨A.c, 4, none⟩ = false := free_of hC4.blk
    obtain ⟨⟨l9, d9, cd9⟩, hr9⟩ : ∃ r, cSync l8 d8 = r := ⟨_, rfl⟩
    have hsy : Calls Tryz.prog 75 #[.pointer (some ⟨A.g, 0, none⟩)] w4 fun e w' => CPost w4 F4 FD4 A (l9, d9, cd9) P e w' := by
      rw [← hr9]
      exact hsy
    have hsd : P.setNumD l d x = (if cd9 = 0 then { P with num := x } else P, (l9, d9, cd9)) := by
      unfold PC.setNumD
      rw [HR8.out]
      simp only
      rw [hr9]
      simp
    have HSD := Lib.hid hsd
    have HM4 := Lib.hid hm4
    have H14 := Lib.hid h14
    have H24 := Lib.hid h24
    clear hwr hst hC4 hm4 h14 h24 hr9 hsd f4
    go_wp2_with fail
    refine hsy.mono ?_
    rintro e w5 hp5
    have he5 : e = .returned (.int .i64 (cd9 : Nat)) := hp5.1
    have hst5 : CSt w F FD A (P, (l9, d9, cd9)) w5 := CSt.ahead HB03.out (CSt.trans (HM4.out.mono (T := A.all F FD) fun b _ hb => .inr hb) H14.out H24.out hp5.st)
    subst he5
    clear hp5
    by_cases h9 : cd9 = 0
    · subst h9
      obtain ⟨F5, FD5, hC5, hm5, h15, h25⟩ := hst5
      have hC5 : CAt w5 F5 FD5 A l9 d9 P := hC5
      have c4 := hC5.c4
      have f4 : w5.frozen? ⟨A.c, 4, none⟩ = false := free_of hC5.blk
      obtain ⟨hC6, hm6⟩ := hC5.numbered x HX.out
      have HC6 := Lib.hid hC6
      have HM6 := Lib.hid (hm5.trans hm6 (T := A.all F FD) (fun _ h => h) fun b _ h => .inl h)
      have hsd0 : P.setNumD l d x = ({ P with num := x }, (l9, d9, 0)) := by rw [HSD.out, if_pos rfl]
      have HSD0 := Lib.hid hsd0
      have H15 := Lib.hid h15
      have H25 := Lib.hid h25
      clear hsy hC5 hm5 h15 h25 hC6 hm6 hsd0 HSD
      go_wp2
      go_ret
      rw [HSD0.out]
      exact ⟨rfl, F5, FD5, HC6.out, HM6.out, H15.out, H25.out⟩
    · have hne : ((cd9 : Int) != 0) = true := by rw [bne_iff_ne]; omega
      have HST := Lib.hid hst5
      clear hsy hst5
      go_wp2
      go_ret
      rw [HSD.out, if_neg h9]
      exact ⟨rfl, HST.out⟩
  · have hne : ((cd : Int) != 0) = true := by rw [bne_iff_ne]; omega
    have hsd : P.setNumD l d x = (P, (l8, d8, cd)) := by
      unfold PC.setNumD
      rw [HR8.out]
      simp only
      rw [if_pos h0]
    have HSD := Lib.hid hsd
    have HST := Lib.hid hst
    clear hwr hst hC4 hm4 h14 h24 hsd
    go_wp2
    go_ret
    rw [HSD.out]
    exact ⟨rfl, HST.out⟩
set_option maxRecDepth 20000 in
theorem psetNumber_arg (h : CAt w F FD A l d P) (x : Nat) (hx : ¬ x ≤ 1099511627775) (h64 : x < 18446744073709551616) : Calls Tryz.prog 33 #[.pointer (some ⟨A.c, 0, none⟩), .int .u64 (x : Nat)] w fun e w' => e = .returned (.int .i64 2) ∧ w' = w := by
  have hok := pok_any h
  have hx' : (1099511627775 : Int) < (x : Int) := by omega
  clear h hx
  go_enter Tryz.func33, Tryz.ntmps33
  go_wp2_with (first
    | (go_at_call 45; refine hok.mono ?_; rintro e wt ⟨rfl, hw⟩; obtain rfl := hw.symm; clear hw)
    | fail)
  go_ret
  exact ⟨rfl, rfl⟩
end
end Go.Proofs.YtldimgchpgoggaaGreat

/- Blocks that are kept: all homes are read (load): walked. -/
namespace Go.Tn.Pc
open Go.Tn Go.Tn.Slo Go.Tn.Ck Go.Tn.Dk Go.Tn.Lp
/-- Nothing is kept. -/
def PC.new (n num : Nat) : PC := ⟨List.replicate n Slt.no, ⟨List.replicate n Pl.no, 0⟩, num⟩
/-- What is kept, the first k slots read. -/
def PC.opened (L : List Slt) (num : Nat) (k : Nat) : PC := (List.range k).foldl (fun c i => c.set i ((L[i]?).getD Slt.no)) (PC.new L.length num)
/-- What may lie in the slots. -/
structure Lays (L : List Slt) : Prop where
  is : ∀ x ∈ L, x.is
  uniq : ∀ (i j : Nat) (x y : Slt), L[i]? = some x → L[j]? = some y → x.used = true → y.used = true → x.blk = y.blk → i = j
theorem opened_succ (L : List Slt) (num k : Nat) : PC.opened L num (k + 1) = (PC.opened L num k).set k ((L[k]?).getD Slt.no) := by
  unfold PC.opened
  rw [List.range_succ, List.foldl_append]
  rfl
theorem opened_len (L : List Slt) (num : Nat) : ∀ k, (PC.opened L num k).L.length = L.length
  | 0 => by simp [PC.opened, PC.new]
  | k + 1 => by rw [opened_succ, set_len, opened_len L num k]
theorem opened_num (L : List Slt) (num : Nat) : ∀ k, (PC.opened L num k).num = num
  | 0 => rfl
  | k + 1 => by rw [opened_succ]; exact opened_num L num k
theorem new_at (n num i : Nat) : (PC.new n num).at_ i = Slt.no := by
  unfold PC.at_ PC.new
  simp only
  rw [List.getElem?_replicate]
  split <;> rfl
theorem opened_at (L : List Slt) (num : Nat) : ∀ k, k ≤ L.length → ∀ i, (PC.opened L num k).at_ i = if i < k then (L[i]?).getD Slt.no else Slt.no
  | 0, _, i => by rw [if_neg (by omega)]; exact new_at _ _ i
  | k + 1, hk, i => by
    rw [opened_succ, set_at (by rw [opened_len]; omega), opened_at L num k (by omega)]
    by_cases h : i = k
    · rw [if_pos h, h, if_pos (by omega)]
    · rw [if_neg h]
      by_cases h2 : i < k
      · rw [if_pos h2, if_pos (by omega)]
      · rw [if_neg h2, if_neg (by omega)]
theorem new_ok (n num : Nat) : (PC.new n num).Ok := by
  refine ⟨by simp [PC.new], fun x hx => ?_, fun i j _ _ h1 => ?_, fun i hi => ?_⟩
  · rw [List.eq_of_mem_replicate hx]
    exact .inl rfl
  · rw [new_at] at h1
    cases h1
  · rw [new_at]
    unfold PC.new Rn.at_
    simp only
    rw [List.getElem?_replicate]
    split <;> rfl
theorem opened_free {L : List Slt} (h : Lays L) {num k : Nat} (hk : k < L.length) : ∀ j, j < (PC.opened L num k).L.length → j ≠ k → ((PC.opened L num k).at_ j).used = true → ((PC.opened L num k).at_ j).blk ≠ ((L[k]?).getD Slt.no).blk ∨ (L[k]?).getD Slt.no = Slt.no := by
  intro j hj hjk hu
  rw [opened_at L num k (by omega)] at hu ⊢
  by_cases h1 : j < k
  · rw [if_pos h1] at hu ⊢
    have e1 : L[j]? = some L[j] := List.getElem?_eq_getElem (by omega)
    have e2 : L[k]? = some L[k] := List.getElem?_eq_getElem hk
    rw [e1] at hu ⊢
    rw [e2]
    by_cases hn : L[k] = Slt.no
    · exact .inr hn
    · refine .inl fun e => hjk (h.uniq j k _ _ e1 e2 hu ((is_used (h.is _ (List.getElem_mem _))).2 hn) e)
  · rw [if_neg h1] at hu
    cases hu
theorem opened_L (L : List Slt) (num : Nat) : (PC.opened L num L.length).L = L := by
  apply List.ext_getElem?
  intro i
  have hl := opened_len L num L.length
  by_cases hi : i < L.length
  · have := opened_at L num L.length (Nat.le_refl _) i
    rw [if_pos hi] at this
    rw [at_get (by rw [hl]; exact hi), this, List.getElem?_eq_getElem hi]
    rfl
  · rw [List.getElem?_eq_none (by rw [hl]; omega), List.getElem?_eq_none (by omega)]
theorem Lays.of {c : PC} (h : c.Ok) : Lays c.L := ⟨h.is, fun i j x y hi hj hx hy e => h.uniq i j (List.getElem?_eq_some_iff.1 hi).1 (List.getElem?_eq_some_iff.1 hj).1 (by rw [at_of hi]; exact hx) (by rw [at_of hj]; exact hy) (by rw [at_of hi, at_of hj]; exact e)⟩
/-- A block that is to be read is not there yet; nor is a free one. -/
theorem opened_find {L : List Slt} (h : Lays L) {num k : Nat} (hk : k < L.length) : (PC.opened L num k).find ((L[k]?).getD Slt.no).blk = none := by
  rw [find_none]
  intro j hj hu e
  have e2 : L[k]? = some L[k] := List.getElem?_eq_getElem hk
  rw [opened_len] at hj
  rw [opened_at L num k (by omega)] at hu e
  by_cases h1 : j < k
  · rw [if_pos h1] at hu e
    have e1 : L[j]? = some L[j] := List.getElem?_eq_getElem (by omega)
    rw [e1] at hu e
    rw [e2] at e
    by_cases hn : L[k].used = true
    · have := h.uniq j k _ _ e1 e2 hu hn e
      omega
    · have hf : (L[j]).fits := by
        rcases h.is _ (List.getElem_mem (l := L) (n := j) (by omega)) with e | h
        · have hu : (L[j]).used = true := hu
          rw [e] at hu
          cases hu
        · exact h
      have hk0 : L[k] = Slt.no := Classical.byContradiction fun e => hn ((is_used (h.is _ (List.getElem_mem _))).2 e)
      have h1 := hf.ino
      have e : (L[j]).blk = (L[k]).blk := e
      rw [e, hk0] at h1
      exact absurd h1.1 (by decide)
  · rw [if_neg h1] at hu
    cases hu
end Go.Tn.Pc
namespace Go.Proofs.YtldimgchpgoggaaGreat
open Go.RowKit Go.Tn Go.Tn.Bt Go.Tn.Lp Go.Tn.Dk Go.Tn.Ino Go.Tn.Slo Go.Tn.Ck Go.Tn.Pc
theorem loadF_any (w : World) (c : Nat) : Calls Tryz.prog 83 #[.int .u8 (c : Nat)] w fun e w' => e = .returned (.bool (decide (c ≠ 0))) ∧ w' = w := by
  by_cases h : c = 0
  · subst h
    go_enter Tryz.func83, Tryz.ntmps83
    go_wp2
    go_ret
    exact ⟨rfl, rfl⟩
  · have hne : ((c : Int) != 0) = true := by rw [bne_iff_ne]; omega
    have hd : decide (c ≠ 0) = true := decide_eq_true h
    go_enter Tryz.func83, Tryz.ntmps83
    go_wp2
    go_ret
    rw [hd]
    exact ⟨rfl, rfl⟩
/-- Bytes that are all zero. -/
theorem indexF_zero (w : World) (v : Value) (bs : List Nat) (h : LSl en8 1 w v bs) (hz : ∀ x ∈ bs, x = 0) (hl : bs.length ≤ 1000) : Calls Tryz.prog 119 #[v, .func (.func 83) #[] #[]] w fun e w' => e = .returned (.int .i64 (-1)) ∧ w' = w := by
  obtain ⟨ao, cap, rfl, h1, h2, h3⟩ := h
  unfold maxLen at h2
  have eg : ∀ args w, (callFunc 83 args).run Tryz.prog w = .ok (.enter 83 args) w := enters_of Tryz.func83 (by kernel_rfl) rfl
  go_enter Tryz.func119, Tryz.ntmps119
  go_wp2
  go_loopw [8] (fun jv wi => ∃ k : Nat, k ≤ bs.length ∧ jv = .int .i64 k ∧ wi = w) (fun jv _ => bs.length - (intOf jv).toNat)
  case atStart => exact ⟨0, Nat.zero_le _, rfl, rfl⟩
  case round =>
    obtain ⟨k, hk, rfl, rfl⟩ := hrel
    by_cases hkl : k < bs.length
    · have hkl' : (k : Int) < (bs.length : Int) := by omega
      obtain ⟨c, hc⟩ : ∃ c, bs[k]? = some c := ⟨bs[k], List.getElem?_eq_getElem hkl⟩
      have hc0 := hz c (List.mem_of_getElem? hc)
      subst hc0
      obtain ⟨b, off, rfl, hbl, hcells⟩ := h3 (by omega)
      have hcell := hcells k 0 hc 0 (by simp)
      simp only [Nat.mul_one, Nat.add_zero] at hcell
      have HC : wr.cell? ⟨b, off + k, none⟩ = some (.int .u8 ((0 : Nat) : Int)) := hcell
      have hcl := loadF_any wr 0
      rw [decide_eq_false (fun h => h rfl)] at hcl
      clear hcell hcells hc
      go_wp2_with fail
      refine hcl.mono ?_
      rintro e w2 ⟨rfl, hw⟩
      obtain rfl := hw.symm
      clear hcl hw
      go_wp2
      go_roundw
      case rel => exact ⟨k + 1, by omega, by go_num, trivial⟩
      case measure => simp [intOf]; omega
    · obtain rfl : k = bs.length := by omega
      go_wp2
      go_ret
      exact ⟨rfl, rfl⟩
theorem containsF_zero (w : World) (v : Value) (bs : List Nat) (h : LSl en8 1 w v bs) (hz : ∀ x ∈ bs, x = 0) (hl : bs.length ≤ 1000) : Calls Tryz.prog 82 #[v, .func (.func 83) #[] #[]] w fun e w' => e = .returned (.bool false) ∧ w' = w := by
  have hi := indexF_zero w v bs h hz hl
  obtain ⟨ao, cap, rfl, -⟩ := h
  go_enter Tryz.func82, Tryz.ntmps82
  go_wp2_with fail
  refine hi.mono ?_
  rintro e w2 ⟨rfl, hw⟩
  obtain rfl := hw.symm
  clear hi hw
  go_wp2
  go_ret
  exact ⟨rfl, rfl⟩
end Go.Proofs.YtldimgchpgoggaaGreat

/- Blocks that are kept: load: walked. -/
namespace Go.Proofs.YtldimgchpgoggaaGreat
open Go.RowKit Go.Tn Go.Tn.Bt Go.Tn.Lp Go.Tn.Dk Go.Tn.Ino Go.Tn.Slo Go.Tn.Ck Go.Tn.Pc
section
variable {w w' : World} {F FD F' FD' : Nat → Prop} {A : CA} {l l' : Lg} {d d' : Dsk} {P P' : PC}
set_option maxRecDepth 20000 in
set_option maxHeartbeats 8000000 in
theorem pload_any (L : List Slt) (num : Nat) (h : CAt w F FD A l d (PC.new L.length 0)) (hok : l.ok d) (hL : Lays L) (hnum : num ≤ 1099511627775) (hh : L.length + 1 ≤ l.homes d) (h0 : l.home d 0 = numSec num) (hi : ∀ i, i < L.length → l.home d (1 + i) = ((L[i]?).getD Slt.no).sec) :
    Calls Tryz.prog 44 #[.pointer (some ⟨A.c, 0, none⟩)] w fun e w' => e = .returned (.int .i64 0) ∧ CAt w' F FD A l d (PC.opened L num L.length) ∧ Mod A.own w w' := by
  obtain ⟨N, hN⟩ : ∃ N, L.length = N := ⟨_, rfl⟩
  have hN64 : N ≤ 64 := by
    have h2 := h.ring.hi
    have h3 : (PC.new L.length 0).R.L.length = L.length := by simp [PC.new]
    omega
  have hrd := gread_any h.log h.disk hok 0 (by omega)
  rw [h0, show ((0 : Nat) : Int) = 0 from rfl] at hrd
  have c0 := h.c0
  have HC := Lib.hid h
  have HOK := Lib.hid hok
  have HL := Lib.hid hL
  have HNUM := Lib.hid hnum
  have HH := Lib.hid hh
  have HI := Lib.hid hi
  have HN := Lib.hid hN
  clear h hok hL hnum hh h0 hi hN
  go_enter Tryz.func44, Tryz.ntmps44
  go_wp2_with fail
  refine hrd.mono ?_
  rintro e w2 ⟨v0, rfl, hR0, hb2⟩
  have hsl0 := hR0.sl
  obtain ⟨ao, cap0, hv0, hl1, hl2, hl3⟩ := hR0.sl
  rw [numSec_len] at hv0 hl1 hl3
  obtain ⟨b0, o0, rfl, hb0, -⟩ := hl3 (by decide)
  subst hv0
  have hlo0 : w.heap.size ≤ b0 := hR0.lo b0 rfl
  have hcl0 : A.c < w.heap.size := lt_of_block HC.out.blk
  have hC2 := HC.out.below hb2
  have hdr := hsl0.drop2 (i := 120) (by rw [numSec_len]; decide) (show (if cap0 = 120 then some (⟨b0, o0, none⟩ : Addr) else (some (⟨b0, o0, none⟩ : Addr)).map (·.add (120 * 1))) = some ⟨b0, o0 + 120, none⟩ by rw [if_neg (by omega)]; simp [addr_add]) (show 128 - 120 = 8 by rfl) (rfl : cap0 - 120 = cap0 - 120)
  have hva := pvalue_any w2 _ _ hdr (fun x hx => numSec_lt _ x (List.mem_of_mem_drop hx)) (by rw [List.length_drop, numSec_len]; decide)
  rw [numSec_num (by have := HNUM.out; omega)] at hva
  have hb120 : (120 : Nat) ≤ 128 := by decide
  have had : (if cap0 = 120 then some (⟨b0, o0, none⟩ : Addr) else (some (⟨b0, o0, none⟩ : Addr)).map (·.add (120 * 1))) = some ⟨b0, o0 + 120, none⟩ := by rw [if_neg (by omega)]; simp [addr_add]
  have HAD := Lib.hid had
  have c4 := hC2.c4
  have f4 : w2.frozen? ⟨A.c, 4, none⟩ = false := free_of hC2.blk
  have HC2 := Lib.hid hC2
  have HB2 := Lib.hid hb2
  have HSL0 := Lib.hid hsl0
  have hcap : 128 ≤ cap0 := hl1
  clear hrd hR0 hsl0 hl2 hl3 hC2 hdr had c0 hb2 hl1
  go_upto_region 5 with (first
    | ((with_reducible refine wpList_exec rfl (exec_sliceLo2 Tryz.underlying107 size8 hb120 HAD.out (rfl : 128 - 120 = 8) (rfl : cap0 - 120 = cap0 - 120) ?_ ?_) ?_); rfl; rfl; go_frame)
    | (go_at_call 81; refine hva.mono ?_; rintro e wt ⟨rfl, hw⟩; obtain rfl := hw.symm; clear hw)
    | fail)
  obtain ⟨hC3, hm3⟩ := HC2.out.numbered num HNUM.out
  have hsl3 : LSl en8 1 (w2.setCell ⟨A.c, 4, none⟩ (.int .u64 (num : Nat))) (.slice (some ⟨b0, o0, none⟩) 120 cap0) (List.replicate 120 0) := by
    have h1 := HSL0.out.take (i := 120) (by rw [numSec_len]; decide)
    rw [numSec_take] at h1
    obtain ⟨ao, cap, e1, e2, e3, e4⟩ := h1
    refine ⟨ao, cap, e1, e2, e3, fun h => ?_⟩
    obtain ⟨b, off, e5, e6, e7⟩ := e4 h
    cases e1
    cases e5
    refine ⟨b0, o0, rfl, by simpa [World.setCell] using e6, fun i x hi j hj => ?_⟩
    have hbc : A.c ≠ b0 := fun e => by omega
    exact cell_mod (e7 i x hi j hj) ((Mod.refl (fun b => b = A.c) w2).setCell ⟨A.c, 4, none⟩ (.int .u64 ((num : Nat) : Int)) (fun _ => rfl)) (fun e => hbc e.symm)
  have c4' : (w2.setCell ⟨A.c, 4, none⟩ (.int .u64 (num : Nat))).cell? ⟨A.c, 4, none⟩ = some (.int .u64 (num : Nat)) := hC3.c4
  have hnum' : (num : Int) ≤ 1099511627775 := by have := HNUM.out; omega
  have hcf := containsF_zero _ _ _ hsl3 (fun x hx => List.eq_of_mem_replicate hx) (by simp)
  have hC3 : CAt (w2.setCell ⟨A.c, 4, none⟩ (.int .u64 (num : Nat))) F FD A l d (PC.opened L num 0) := hC3
  have hm03 : Mod A.own w (w2.setCell ⟨A.c, 4, none⟩ (.int .u64 (num : Nat))) := ((Mod.of_below HB2.out).mono (T := A.own) fun _ hx hS => absurd hx (Nat.not_lt.2 hS)).trans hm3 (fun _ h => h) (fun _ _ h => h)
  have HC3 := Lib.hid hC3
  have HM3 := Lib.hid hm03
  have hb120' : (120 : Nat) ≤ cap0 := by omega
  clear hva c4 f4 hC3 hm3 hm03 hsl3 hlo0 hcl0
  generalize w2.setCell ⟨A.c, 4, none⟩ (.int .u64 (num : Nat)) = w3 at *
  go_wp2_with (first
    | ((with_reducible refine wpList_execW (exec_sliceHi (i := 120) Tryz.underlying107 size8 hb120' ?_ ?_) ?_ ?_); rfl; rfl; (first | rfl | (go_simp; done)); go_frame)
    | fail)
  refine hcf.mono ?_
  rintro e wt ⟨rfl, hw⟩
  obtain rfl := hw.symm
  have c1 : w3.cell? ⟨A.c, 1, none⟩ = some (.slice (some ⟨A.sb, 0, none⟩) N N) := by
    have := HC3.out.c1
    rw [opened_len, HN.out] at this
    exact this
  clear hcf hw c4'
  go_wp2
  go_loopw [43] (fun iv wi => ∃ k : Nat, k ≤ N ∧ iv = .int .i64 k ∧ CAt wi F FD A l d (PC.opened L num k) ∧ Mod A.own w wi) (fun iv _ => N - (intOf iv).toNat)
  case atStart => exact ⟨0, Nat.zero_le _, rfl, HC3.out, HM3.out⟩
  case round =>
    obtain ⟨k, hk, rfl, hCi, hmi⟩ := hrel
    have HCI := Lib.hid hCi
    have HMI := Lib.hid hmi
    clear hCi hmi
    by_cases hkl : k < N
    · have hkl' : (k : Int) < (N : Int) := by omega
      have hkL : k < L.length := by rw [HN.out]; exact hkl
      obtain ⟨x, hx⟩ : ∃ x, (L[k]?).getD Slt.no = x := ⟨_, rfl⟩
      have hxi : x.is := by
        rw [← hx, List.getElem?_eq_getElem hkL]
        exact HL.out.is _ (List.getElem_mem _)
      have hrd := gread_any HCI.out.log HCI.out.disk HOK.out (1 + k) (by have := HH.out; omega)
      rw [HI.out k hkL, hx, show ((1 + k : Nat) : Int) = 1 + (k : Int) by omega] at hrd
      have q0 := HCI.out.c0
      have HX := Lib.hid hx
      have HXI := Lib.hid hxi
      have HKL := Lib.hid hkL
      clear hx hxi hkL c1
      go_wp2_with fail
      refine hrd.mono ?_
      rintro e w4 ⟨v4, rfl, hR4, hb4⟩
      have hde := sdec_any w4 v4 x HXI.out hR4.sl
      obtain ⟨a4, n4, k4, rfl⟩ : ∃ a n c, v4 = .slice a n c := by
        obtain ⟨ao, cap, rfl, -⟩ := hR4.sl
        exact ⟨_, _, _, rfl⟩
      have HB4 := Lib.hid hb4
      clear hrd hR4 hb4 q0
      go_wp2_with fail
      refine hde.mono ?_
      rintro e w5 ⟨rfl, hb5⟩
      have hagx := aggSl x
      have honx := oneSl x
      obtain ⟨w6, hw6⟩ : ∃ w6, w5.alloc (.cells (slC x) 42) = w6 := ⟨_, rfl⟩
      have hx6 : w6.heap[w5.heap.size]? = some (.cells (slC x) 42 (0, 0)) := by rw [← hw6]; exact heap_alloc_at
      have hb56 : Below w5.heap.size w5 w6 := by rw [← hw6]; exact (Below.refl _ _).alloc (Nat.le_refl _) _
      have hbr5 := HB4.out.trans (hb5.mono HB4.out.size)
      have hbr6 := hbr5.trans (hb56.mono hbr5.size)
      have hC6 := HCI.out.below hbr6
      have c2 := hC6.c2
      obtain ⟨Le, clk, hmap, hwf, hget⟩ := hC6.wh.ex
      have hgb := hget x.blk
      have hfn := opened_find HL.out (num := num) HKL.out
      rw [HX.out] at hfn
      rw [hfn] at hgb
      have HX6 := Lib.hid hx6
      have HC6 := Lib.hid hC6
      have HBR6 := Lib.hid hbr6
      clear hde hb5 hx6 hb56 hbr5 hbr6 hC6 hwf hget hfn
      go_upto_region 16 with (first
        | ((with_reducible refine wpList_storeA_new hagx ?_ honx ?_ ?_ ?_); rfl; rfl; rfl; go_frame)
        | fail)
      simp only [hw6] at *
      clear hw6
      have hS : w6.drew.cell? ⟨A.c, 2, none⟩ = some (.map (some A.wb)) ∧ Lies w6.drew w5.heap.size 1 (blC x.blk) ∧ w6.drew.heap[A.wb]? = some (.map (ents encB Le) clk) := ⟨c2, fun j hj => by
        match j, hj with
        | 0, _ => exact cell_of (w := w6.drew) HX6.out rfl
        | 1, _ => exact cell_of (w := w6.drew) HX6.out rfl
        | 2, _ => exact cell_of (w := w6.drew) HX6.out rfl, hmap⟩
      refine wp_region_x (fun w' => w'.cell? ⟨A.c, 2, none⟩ = some (.map (some A.wb)) ∧ Lies w' w5.heap.size 1 (blC x.blk) ∧ w'.heap[A.wb]? = some (.map (ents encB Le) clk)) [(0, 1), (1, 1), (2, 1), (3, 0), (4, 1), (5, 0), (6, 0), (7, 1), (8, 1), (9, 1), (10, 1), (11, 1)] (by kernel_rfl) (by kernel_rfl) (by intro d v c a w h; cases d <;> exact h) ?_
      iterate 3 (refine x_take rfl (fun K hK => ?_); go_simp; refine hK _ ?_; clear hK K)
      refine x_read rfl hS (fun w' h => exec_load1 ⟨⟨_, Tryz.underlying66, rfl⟩⟩ rfl h.1) ?_
      iterate 1 (refine x_take rfl (fun K hK => ?_); go_simp; refine hK _ ?_; clear hK K)
      refine x_read rfl hS (fun w' h => exec_loadA (aggBl x.blk) rfl h.2.1) ?_
      refine x_read rfl hS (fun w' h => exec_lookup_ok keyB Tryz.underlying66 zeroI h.2.2 rfl x.blk rfl) ?_
      iterate 5 (refine x_take rfl (fun K hK => ?_); go_simp; refine hK _ ?_; clear hK K)
      refine x_nil ?_
      simp only [getD, hgb]
      have hC7 : CAt w6.drew F FD A l d (PC.opened L num k) := HC6.out.below (Below.refl w6.heap.size w6).drew
      have hx7 : w6.drew.heap[w5.heap.size]? = some (.cells (slC x) 42 (0, 0)) := HX6.out
      have hm7 : Mod A.own w w6.drew := (HMI.out.trans (Mod.of_below HBR6.out) (T := A.own) (fun _ h => h) (fun b hb h => absurd (Nat.lt_of_lt_of_le hb HMI.out.size) (Nat.not_lt.2 h))).drew
      have HC7 := Lib.hid hC7
      have HM7 := Lib.hid hm7
      clear hS c2 hmap hgb hC7 hm7
      generalize w6.drew = w7 at *
      have hL7 := lies_of hx7
      have hof := opened_free HL.out (num := num) HKL.out
      rw [HX.out] at hof
      have hset := pset_any HC7.out k (by rw [opened_len]; exact HKL.out) x HXI.out hof
      have hsu := opened_succ L num k
      rw [HX.out] at hsu
      rw [← hsu] at hset
      clear hx7 hof hsu
      simp only [Option.map, Option.getD, Option.isSome]
      go_wp2_with (first
        | ((with_reducible refine wpList_loadA hagx hL7 ?_ ?_); rfl; go_frame)
        | fail)
      refine hset.mono ?_
      rintro e w9 ⟨rfl, hC9, hm9⟩
      have HC9 := Lib.hid hC9
      have HM9 := Lib.hid (HM7.out.trans hm9 (fun _ h => h) (fun _ _ h => h))
      clear hset hL7 hC9 hm9
      go_wp2
      go_roundw
      case rel => exact ⟨k + 1, by omega, by go_num, HC9.out, HM9.out⟩
      case measure => simp [intOf]; omega
    · obtain rfl : k = N := by omega
      have hC9 := HCI.out
      rw [← HN.out] at hC9
      have HC9 := Lib.hid hC9
      clear hC9
      go_wp2
      go_ret
      exact ⟨rfl, HC9.out, HMI.out⟩
end
end Go.Proofs.YtldimgchpgoggaaGreat

/- Blocks that are kept: Open: walked. -/
namespace Go.Proofs.YtldimgchpgoggaaGreat
open Go.RowKit Go.Tn Go.Tn.Bt Go.Tn.Lp Go.Tn.Dk Go.Tn.Ino Go.Tn.Slo Go.Tn.Ck Go.Tn.Pc
theorem lout_full {α : Type} {en : α → List Value} {k : Nat} {e : TypeId} (hen : ∀ x, (en x).length = k) {B : Nat} {w : World} {g n : Nat} {xs : List α} (h : LOut en k e B w (.slice (some ⟨g, 0, none⟩) n n) xs) (hk : 0 < n) (hx : xs.length = n) : w.heap[g]? = some (.cells (xs.flatMap en).toArray e (0, 0)) := by
  rcases h.own.2 with ⟨hv, _⟩ | ⟨g', cap', cur, hv, h0, hg, hn, hm, hs, ht⟩
  · cases hv
  · cases hv
    rw [hg]
    congr 2
    rw [← ht, List.take_of_length_le]
    rw [hx]
    simp [hs]
theorem built_pc (g sb n wb : Nat) : Tryz.prog.built 69 [(0, .pointer (some ⟨g, 0, none⟩)), (1, .slice (some ⟨sb, 0, none⟩) n n), (2, .map (some wb))] = some #[.pointer (some ⟨g, 0, none⟩), .slice (some ⟨sb, 0, none⟩) n n, .map (some wb), .pointer none, .int .u64 0] := by kernel_rfl
theorem zero_slot : (Tryz.prog.info? 42).map (fun i => i.zero.map (·.cells)) = some (some (enSl Slt.no).toArray) := by kernel_rfl
/-- What Open leaves. -/
def POpen (w : World) (FD : Nat → Prop) (p : Nat) (l : Lg) (d : Dsk) (P : PC) (e : Ending) (w' : World) : Prop := ∃ A F, e = .returned (.tuple #[.pointer (some ⟨A.c, 0, none⟩), .int .i64 0]) ∧ CAt w' F FD A l d P ∧ A.p = p ∧ Below w.heap.size w w' ∧ (∀ b, F b → w.heap.size ≤ b) ∧ ∀ b, A.own b → w.heap.size ≤ b
section
variable {w w' : World} {FD : Nat → Prop} {p : Nat} {l l' : Lg} {d d' : Dsk}
set_option maxRecDepth 20000 in
set_option maxHeartbeats 8000000 in
theorem popen_any (hd : DAt w FD p d) (n : Nat) (L : List Slt) (num : Nat) (h20 : 20 ≤ n) (hn4 : n ≤ 400) (h1 : 1 ≤ L.length) (h64 : L.length ≤ 64) (hnd : n + L.length + 3 ≤ d.L.length) (hf : newestB d (2 + n) < 16777215) (hl : openB d n = some l) (hok : l.ok d) (hrn : l.n = n)
    (hL : Lays L) (hnum : num ≤ 1099511627775) (h0 : l.home d 0 = numSec num) (hi : ∀ i, i < L.length → l.home d (1 + i) = ((L[i]?).getD Slt.no).sec) :
    Calls Tryz.prog 10 #[.pointer (some ⟨p, 0, none⟩), .int .i64 n, .int .i64 L.length] w fun e w' => POpen w FD p l d (PC.opened L num L.length) e w' := by
  have hop := open_main hd n (by omega) (by omega) hn4 hf l hl
  have hsz := fun w' (h : DAt w' FD p d) => size_any h
  have hhi := hd.ok.hi
  have hh : L.length + 1 ≤ l.homes d := by unfold Lg.homes; omega
  have hlod := fun (w : World) (A : CA) (F : Nat → Prop) (h : CAt w F FD A l d (PC.new L.length 0)) => pload_any L num h hok hL hnum hh h0 hi
  have HD := Lib.hid hd
  have HSZ := Lib.hid hsz
  have HLOD := Lib.hid hlod
  have hdl : ((d.L.length : Int) == 0) = false := beq_eq_false_iff_ne.2 (by omega)
  have hn1 : decide ((n : Int) < 20) = false := decide_eq_false (by omega)
  have hn1' : ¬ ((n : Int) < 20) := by omega
  clear hd hf hl hok hrn hL hnum h0 hi hh hsz hlod
  obtain ⟨N, hN⟩ : ∃ N, L.length = N := ⟨_, rfl⟩
  rw [hN] at h1 h64 hnd ⊢
  have HN := Lib.hid hN
  clear hN
  generalize hDL : d.L.length = D at *
  have HDL := Lib.hid hDL
  clear hDL
  have hn2 : decide ((N : Int) < 1) = false := decide_eq_false (by omega)
  have hn2' : ¬ ((N : Int) < 1) := by omega
  have hn3' : ¬ ((64 : Int) < (N : Int)) := by omega
  have hn3 : decide ((64 : Int) < (N : Int)) = false := decide_eq_false hn3'
  have hn5' : ¬ ((D : Int) - (N : Int) - 3 < (n : Int)) := by omega
  have hn5 : decide ((D : Int) - (N : Int) - 3 < (n : Int)) = false := decide_eq_false hn5'
  have hb4 : (D : Int) ≤ 4096 := by omega
  have hb5 : (N : Int) ≤ 64 := by omega
  have hb6 : (1 : Int) ≤ (N : Int) := by omega
  have hmm := @run_makeMap Tryz.prog
  go_enter Tryz.func10, Tryz.ntmps10
  go_wp2_with fail
  refine hop.mono ?_
  rintro e w2 ⟨g, F, rfl, hL2, hb2, hF2⟩
  have hs2 := HSZ.out _ (HD.out.below hb2)
  have HL2 := Lib.hid hL2
  have HB2 := Lib.hid hb2
  have HF2 := Lib.hid hF2
  obtain ⟨w3, hmk, hO3, hb3, hz3⟩ := exec_makeA elSl Slt.no zero_slot N (by omega) w2
  have hbt := built_pc g w2.heap.size N w3.heap.size
  have HO3 := Lib.hid hO3
  have HB3 := Lib.hid hb3
  have HZ3 := Lib.hid hz3
  obtain ⟨w4, hw4⟩ : ∃ w4, (w3.alloc (.map #[] 0)).alloc (.cells #[.pointer (some ⟨g, 0, none⟩), .slice (some ⟨w2.heap.size, 0, none⟩) N N, .map (some w3.heap.size), .pointer none, .int .u64 0] 69) = w4 := ⟨_, rfl⟩
  have hz31 : (w3.alloc (.map #[] 0)).heap.size = w3.heap.size + 1 := by simp
  have hmp4 : w4.heap[w3.heap.size]? = some (.map (ents encB []) 0) := by rw [← hw4]; exact heap_alloc_of (show (w3.alloc (.map #[] 0)).heap[w3.heap.size]? = some (.map (ents encB []) 0) from heap_alloc_at)
  have hc4 : w4.heap[w3.heap.size + 1]? = some (.cells #[.pointer (some ⟨g, 0, none⟩), .slice (some ⟨w2.heap.size, 0, none⟩) N N, .map (some w3.heap.size), .pointer none, .int .u64 0] 69 (0, 0)) := by rw [← hw4, ← hz31]; exact heap_alloc_at
  have hb34 : Below w3.heap.size w3 w4 := by rw [← hw4]; exact ((Below.refl _ _).alloc (Nat.le_refl _) _).alloc (by rw [hz31]; omega) _
  have hz4 : w4.heap.size = w3.heap.size + 2 := by rw [← hw4]; simp
  have HMP4 := Lib.hid hmp4
  have HC4 := Lib.hid hc4
  have HB34 := Lib.hid hb34
  have HZ4 := Lib.hid hz4
  have HN1 := Lib.hid h1
  have HN64 := Lib.hid h64
  clear hop hL2 hb2 hF2 hO3 hb3 hz3 hmp4 hc4 hb34 hz4
  go_upto_region 9 with (first
    | (go_at_call 42; refine hs2.mono ?_; rintro e wt ⟨rfl, hw⟩; obtain rfl := hw.symm; clear hw)
    | ((with_reducible refine wpList_exec rfl (hmk _ _ _ _ _ _ _ _ ?_ ?_) ?_); rfl; rfl; go_frame)
    | ((with_reducible refine wpList_exec rfl (exec_buildA (vals := [(0, .pointer (some ⟨g, 0, none⟩)), (1, .slice (some ⟨w2.heap.size, 0, none⟩) N N), (2, .map (some w3.heap.size))]) ?_ hbt) ?_); rfl; go_frame)
    | fail)
  simp only [hz31, hw4] at *
  clear hw4 hz31 hmk hs2 hbt hmm
  have hkn := knew_any w4 N HN1.out HN64.out
  have c3 : w4.cell? ⟨w3.heap.size + 1, 3, none⟩ = some (.pointer none) := cell_of HC4.out rfl
  go_upto_region 10 with (first
    | (go_at_call 43; refine hkn.mono ?_; rintro e w5 ⟨rb, rfl, hR5, hb5, hrb⟩; have hk5 := (hb5.block (w3.heap.size + 1) (by have := HZ4.out; omega)).trans HC4.out; have c35 : w5.cell? ⟨w3.heap.size + 1, 3, none⟩ = some (.pointer none) := cell_of hk5 rfl; have f35 : w5.frozen? ⟨w3.heap.size + 1, 3, none⟩ = false := free_of hk5; have HR5 := Lib.hid hR5; have HB5 := Lib.hid hb5; have HRB := Lib.hid hrb; have HK5 := Lib.hid hk5; clear hR5 hb5 hrb hk5)
    | fail)
  have hm6 := (Mod.refl (fun b => b = w3.heap.size + 1) w5).setCell ⟨w3.heap.size + 1, 3, none⟩ (.pointer (some ⟨rb, 0, none⟩)) (fun _ => rfl)
  have hk6 : (w5.setCell ⟨w3.heap.size + 1, 3, none⟩ (.pointer (some ⟨rb, 0, none⟩))).heap[w3.heap.size + 1]? = some (.cells (cacheC ⟨w3.heap.size + 1, w2.heap.size, w3.heap.size, rb, g, p⟩ (PC.new N 0)) 69 (0, 0)) := by
    rw [heap_setCell_at HK5.out]
    unfold cacheC PC.new
    simp only [List.length_replicate]
    rfl
  have HM6 := Lib.hid hm6
  have HK6 := Lib.hid hk6
  clear hm6 hk6 c35 f35 hkn c3
  generalize w5.setCell ⟨w3.heap.size + 1, 3, none⟩ (.pointer (some ⟨rb, 0, none⟩)) = w6 at *
  have z3 := HZ3.out
  have z4 := HZ4.out
  have s2 := HB2.out.size
  have hrb := HRB.out
  have s5 := HB5.out.size
  have b25 : Below w2.heap.size w2 w5 := (HB3.out.trans (HB34.out.mono (by omega))).trans (HB5.out.mono (by omega))
  have b26 : Below w2.heap.size w2 w6 := b25.trans (HM6.out.below b25.size fun x hx e => by have e : x = w3.heap.size + 1 := e; omega)
  have hF := HL2.out.lt
  have hFD := HD.out.lt
  have hdk := (HD.out.below HB2.out).below b26
  have hne : w3.heap.size + 1 ≠ w2.heap.size ∧ w3.heap.size + 1 ≠ w3.heap.size ∧ w3.heap.size + 1 ≠ rb ∧ w2.heap.size ≠ w3.heap.size ∧ w2.heap.size ≠ rb ∧ w3.heap.size ≠ rb := by omega
  have hC6 : CAt w6 F FD ⟨w3.heap.size + 1, w2.heap.size, w3.heap.size, rb, g, p⟩ l d (PC.new N 0) := by
    refine ⟨HK6.out, ?_, ⟨[], 0, ?_, WF.nil 0, fun k => ?_⟩, ?_, HL2.out.below b26, hdk, fun b hb h => ?_, fun b hb => ?_, hne, new_ok _ _, Nat.zero_le _⟩
    · have h1 := lout_full elSl.len HO3.out (by have := HN1.out; omega) (by rw [List.length_replicate])
      have h2 := (HB34.out.block w2.heap.size (by omega)).trans h1
      have h3 := (HB5.out.block w2.heap.size (by omega)).trans h2
      exact HM6.out.heap h3 (fun e => hne.1 e.symm)
    · exact HM6.out.heap ((HB5.out.block w3.heap.size (by omega)).trans HMP4.out) (fun e => hne.2.1 e.symm)
    · have hn : (PC.new N 0).find k = none := find_none.2 fun i _ hu => by
        rw [new_at] at hu
        cases hu
      rw [hn]
      rfl
    · exact HR5.out.mod HM6.out (fun e => by have e : rb = w3.heap.size + 1 := e; omega)
    · have := HF2.out b hb
      have := hFD b h
      omega
    · have hbl : w2.heap.size ≤ b := by
        rcases hb with e | e | e | e
        · have e : b = w3.heap.size + 1 := e
          omega
        · have e : b = w2.heap.size := e
          omega
        · have e : b = w3.heap.size := e
          omega
        · have e : b = rb := e
          omega
      exact ⟨fun h => by have := hF b h; omega, fun h => by have := hFD b h; omega⟩
  have hC6' := hC6
  rw [← HN.out] at hC6'
  have hlo := HLOD.out w6 _ F hC6'
  have HB26 := Lib.hid b26
  have HO : Hid (w2.heap.size ≤ w3.heap.size ∧ w2.heap.size ≤ rb) := Lib.hid ⟨by omega, by omega⟩
  clear hC6 hC6' b25 b26 hF hFD hdk z3 z4 hrb s5
  go_wp2_with fail
  refine hlo.mono ?_
  rintro e w7 ⟨rfl, hC7, hm7⟩
  have hb7 : Below w.heap.size w w7 := HB2.out.trans ((HB26.out.mono s2).trans (hm7.below (Nat.le_trans s2 HB26.out.size) fun x hx hS => by
    have ho := HO.out
    rcases hS with e | e | e | e
    · have e : x = w3.heap.size + 1 := e
      omega
    · have e : x = w2.heap.size := e
      omega
    · have e : x = w3.heap.size := e
      omega
    · have e : x = rb := e
      omega))
  have HC7 := Lib.hid hC7
  have HB7 := Lib.hid hb7
  have hown : ∀ b, (⟨w3.heap.size + 1, w2.heap.size, w3.heap.size, rb, g, p⟩ : CA).own b → w.heap.size ≤ b := fun b hb => by
    have ho := HO.out
    rcases hb with e | e | e | e
    · have e : b = w3.heap.size + 1 := e
      omega
    · have e : b = w2.heap.size := e
      omega
    · have e : b = w3.heap.size := e
      omega
    · have e : b = rb := e
      omega
  have HOW := Lib.hid hown
  clear hlo hC7 hm7 hb7 hown
  go_wp2
  go_ret2
  rw [← HN.out]
  exact ⟨_, F, rfl, HC7.out, rfl, HB7.out, HF2.out, HOW.out⟩
end
end Go.Proofs.YtldimgchpgoggaaGreat
