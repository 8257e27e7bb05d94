/- Fletcher's sum: in plain words, walked. -/
import Derived.Test.YtipbaajdnnddgaaGreatMgVlj8
import Derived.Test.YtipbaajdnnddgaaGreatMgVlj5
/- The reader of bits, walked. -/
namespace Go.Proofs.YtipbaajdnnddgaaGreat
open Go.RowKit Go.Tn Go.Tn.Bt

/-- A reader of bits. -/
structure RdAt (w : World) (a : Nat) (v : Value) (B : List Nat) (at_ err : Nat) : Prop where
  blk : w.heap[a]? = some (.cells #[.bool true, v, .int .i64 at_, .int .i64 err] 123 (0, 0))
  bs : LOut en8 1 5 0 w v B
  ne : ∀ r, v.ownBlock = some r → r ≠ a
  lt : ∀ x ∈ B, x < 256
  len : B.length ≤ 50000
section
variable {w w' : World} {a : Nat} {v : Value} {B : List Nat} {at_ err : Nat}
theorem RdAt.mod {S : Nat → Prop} (h : RdAt w a v B at_ err) (hm : Mod S w w') (h1 : ¬ S a) (h2 : ∀ r, v.ownBlock = some r → ¬ S r) : RdAt w' a v B at_ err :=
  ⟨hm.heap h.blk h1, h.bs.kept hm.size fun r hr => hm.block r (h.bs.lt hr) (h2 r hr), h.ne, h.lt, h.len⟩
theorem RdAt.below (h : RdAt w a v B at_ err) (hb : Below w.heap.size w w') : RdAt w' a v B at_ err :=
  h.mod (Mod.of_below hb) (Nat.not_le.2 (lt_of_block h.blk)) fun r hr => Nat.not_le.2 (h.bs.lt hr)
theorem RdAt.c0 (h : RdAt w a v B at_ err) : w.cell? ⟨a, 0, none⟩ = some (.bool true) := cell_of h.blk rfl
theorem RdAt.c1 (h : RdAt w a v B at_ err) : w.cell? ⟨a, 1, none⟩ = some v := cell_of h.blk rfl
theorem RdAt.c2 (h : RdAt w a v B at_ err) : w.cell? ⟨a, 2, none⟩ = some (.int .i64 at_) := cell_of h.blk rfl
theorem RdAt.c3 (h : RdAt w a v B at_ err) : w.cell? ⟨a, 3, none⟩ = some (.int .i64 err) := cell_of h.blk rfl
/-- The bytes that it reads: where they lie. -/
theorem RdAt.sl (h : RdAt w a v B at_ err) : ∃ ao cap, v = .slice ao B.length cap ∧ (∀ q c, B[q]? = some c → ∃ b off, ao = some ⟨b, off, none⟩ ∧ w.cell? ⟨b, off + q, none⟩ = some (.int .u8 (c : Nat))) := by
  obtain ⟨ao, cap, hv, h1, h2, h3⟩ := h.bs.sl el8.len
  refine ⟨ao, cap, hv, fun q c hc => ?_⟩
  have hlt := (List.getElem?_eq_some_iff.1 hc).1
  obtain ⟨b, off, ha, hb, hl⟩ := h3 (by omega)
  have := hl q c hc 0 (by simp)
  rw [Nat.mul_one, Nat.add_zero] at this
  exact ⟨b, off, ha, this⟩
theorem rok_any (h : RdAt w a v B at_ err) : Calls Tryz.prog 61 #[.pointer (some ⟨a, 0, none⟩)] w fun e w' => e = .returned (.bool true) ∧ w' = w := by
  have c0 := h.c0
  go_enter Tryz.func61, Tryz.ntmps61
  go_wp2
  go_ret
  exact ⟨rfl, rfl⟩
theorem rerr_any (h : RdAt w a v B at_ err) : Calls Tryz.prog 39 #[.pointer (some ⟨a, 0, none⟩)] w fun e w' => e = .returned (.int .i64 (err : Nat)) ∧ w' = w := by
  have c3 := h.c3
  have hok := rok_any h
  go_enter Tryz.func39, Tryz.ntmps39
  go_wp2_with (go_at_call 61; refine hok.mono ?_; rintro e w ⟨rfl, rfl⟩)
  go_ret
  exact ⟨rfl, rfl⟩
/-- What is looked at for what is left. -/
structure LS (a : Nat) (ao : Option Addr) (n cap at_ : Nat) (w : World) : Prop where
  c1 : w.cell? ⟨a, 1, none⟩ = some (.slice ao n cap)
  c2 : w.cell? ⟨a, 2, none⟩ = some (.int .i64 at_)
theorem left_any (h : RdAt w a v B at_ 0) (hat : at_ ≤ 8 * B.length) : Calls Tryz.prog 56 #[.pointer (some ⟨a, 0, none⟩)] w fun e w' => e = .returned (.int .i64 ((8 * B.length - at_ : Nat) : Int)) ∧ Below w.heap.size w w' := by
  have herr := rerr_any h
  obtain ⟨ao, cap, rfl, _⟩ := h.sl
  have hS : LS a ao B.length cap at_ w.drew := ⟨h.c1, h.c2⟩
  have hn := h.len
  generalize B.length = n at *
  have hw1 : IntKind.i64.wrap (8 * (n : Int)) = ((8 * n : Nat) : Int) := by rw [IntWalk.i64_in _ (by omega)]; omega
  have hw2 : IntKind.i64.wrap (((8 * n : Nat) : Int) - at_) = ((8 * n - at_ : Nat) : Int) := by rw [IntWalk.i64_in _ (by omega)]; omega
  generalize 8 * n = m at *
  clear h
  go_enter Tryz.func56, Tryz.ntmps56
  go_upto_region 3 with (go_at_call 39; refine herr.mono ?_; rintro e w2 ⟨rfl, hw⟩; obtain rfl := hw.symm; clear hw)
  refine wp_region_x (LS a ao n cap at_) [(0, 1), (1, 1), (2, 1), (3, 0), (4, 1), (5, 1), (6, 1), (7, 1), (8, 1), (9, 0), (10, 1), (11, 1)] (by kernel_rfl) (by kernel_rfl) (by intro d v c a w h; cases d <;> exact h) ?_
  iterate 3 (refine x_take rfl (fun K hK => ?_); go_simp; refine hK _ ?_; clear hK K)
  refine x_read rfl hS (fun w' h => exec_load1 ⟨⟨_, Tryz.underlying65, rfl⟩⟩ rfl h.c1) ?_
  iterate 5 (refine x_take rfl (fun K hK => ?_); go_simp; refine hK _ ?_; clear hK K)
  refine x_read rfl hS (fun w' h => exec_load1 ⟨⟨_, Tryz.underlying3, rfl⟩⟩ rfl h.c2) ?_
  iterate 2 (refine x_take rfl (fun K hK => ?_); go_simp; refine hK _ ?_; clear hK K)
  refine x_nil ?_
  go_wp2
  go_ret
  exact ⟨rfl, (Below.refl _ _).drew⟩
end
theorem ropen_any (w : World) (v : Value) (B : List Nat) (h : LSl en8 1 w v B) (hlt : ∀ x ∈ B, x < 256) (hl : B.length ≤ 50000) : Calls Tryz.prog 36 #[v] w
    fun e w' => ∃ a v', e = .returned (.pointer (some ⟨a, 0, none⟩)) ∧ RdAt w' a v' B 0 0 ∧ w.heap.size ≤ a ∧ (∀ r, v'.ownBlock = some r → w.heap.size ≤ r) ∧ Below w.heap.size w w' := by
  have hcl := clone_any w v B h hl
  obtain ⟨ao, cap, rfl, _⟩ := h
  go_enter Tryz.func36, Tryz.ntmps36
  go_wp2_with fail
  refine hcl.mono ?_
  rintro e w2 ⟨v', rfl, hO, hb⟩
  have HO := Lib.hid hO
  have HB := Lib.hid hb
  obtain ⟨ao', n', c', rfl⟩ := hO.shape
  clear hO hb hcl
  go_wp2
  go_ret
  have hO := HO.out
  have hal : Below w2.heap.size w2 (w2.alloc (.cells #[.bool true, .slice ao' n' c', .int .i64 0, .int .i64 0] 123)) := (Below.refl _ _).alloc (Nat.le_refl _) _
  exact ⟨_, _, rfl, ⟨heap_alloc_at, (hO.below hal).mono (Nat.zero_le _), fun r hr => by have := hO.lt hr; omega, hlt, hl⟩, HB.out.size, hO.lo, HB.out.alloc HB.out.size _⟩
end Go.Proofs.YtipbaajdnnddgaaGreat

/- The reader of bits: a number is read. -/
namespace Go.Proofs.YtipbaajdnnddgaaGreat
open Go.RowKit Go.Tn Go.Tn.Bt

/-- What is looked at for a piece. -/
structure GS (a b off q : Nat) (n cap p c : Nat) (w : World) : Prop where
  c1 : w.cell? ⟨a, 1, none⟩ = some (.slice (some ⟨b, off, none⟩) n cap)
  c2 : w.cell? ⟨a, 2, none⟩ = some (.int .i64 p)
  cb : w.cell? ⟨b, off + q, none⟩ = some (.int .u8 (c : Nat))
section
variable {w : World} {a : Nat} {v : Value} {B : List Nat} {at_ : Nat}
set_option maxRecDepth 20000 in
set_option maxHeartbeats 1000000 in
theorem get_ok (h : RdAt w a v B at_ 0) (n : Nat) (hn : n ≤ 64) (hat : at_ + n ≤ 8 * B.length) : Calls Tryz.prog 37 #[.pointer (some ⟨a, 0, none⟩), .int .i64 n] w
    fun e w' => e = .returned (.int .u64 ((natOf (((unpack B).drop at_).take n) : Nat) : Int)) ∧ RdAt w' a v B (at_ + n) 0 ∧ Mod (fun x => x = a) w w' := by
  have herr := rerr_any h
  have hleft := left_any h (by omega)
  have hB := h.len
  have hle : n ≤ 8 * B.length - at_ := by omega
  generalize 8 * B.length - at_ = lf at *
  have hlfn : decide (lf < n) = false := by simp; omega
  have hlfn' : ¬ lf < n := by omega
  have hn' : (n : Int) ≤ 64 := by omega
  have hn0 : (0 : Int) ≤ n := by omega
  have hdn : decide ((n : Int) < 0) = false := by simp
  have hdm : decide (64 < (n : Int)) = false := by simp; omega
  have H := Lib.hid h
  clear h
  go_enter Tryz.func37, Tryz.ntmps37
  go_wp2_with fail
  refine herr.mono ?_
  rintro e w2 ⟨rfl, hw⟩
  obtain rfl := hw.symm
  clear hw herr
  go_wp2_with fail
  refine hleft.mono ?_
  rintro e w2 ⟨rfl, hb2⟩
  have h2 := H.out.below hb2
  have hm2 : Mod (fun x => x = a) w w2 := (Mod.of_below hb2).mono fun x hx h => absurd h (Nat.not_le.2 hx)
  clear hleft hb2
  go_wp2_with fail
  go_loopw [1, 5] (fun jv xv wi => ∃ j : Nat, j ≤ n ∧ jv = .int .i64 j ∧ xv = .int .u64 ((natOf (((unpack B).drop at_).take (n - j)) : Nat) : Int) ∧ RdAt wi a v B (at_ + (n - j)) 0 ∧ Mod (fun x => x = a) w wi) (fun jv _ _ => (intOf jv).toNat)
  case atStart =>
    refine ⟨n, Nat.le_refl _, rfl, ?_, ?_, hm2⟩
    · simp [natOf]
    · rw [Nat.sub_self, Nat.add_zero]
      exact h2
  case round =>
    obtain ⟨j, hj, rfl, rfl, hr, hm⟩ := hrel
    have hpe : at_ + (n - j) = at_ + (n - j) := rfl
    by_cases hj0 : 0 < j
    · have hj0' : (0 : Int) < (j : Int) := by omega
      obtain ⟨p, hp⟩ : ∃ p, at_ + (n - j) = p := ⟨_, rfl⟩
      rw [hp] at hr
      have hpl : p < 8 * B.length := by omega
      have hand := and7 p (by omega)
      have hpp : p < 9223372036854775808 := by omega
      obtain ⟨t, ht⟩ : ∃ t, p % 8 = t := ⟨_, rfl⟩
      rw [ht] at hand
      have ht8 : t < 8 := by omega
      obtain ⟨k, hk⟩ : ∃ k, min j (8 - t) = k := ⟨_, rfl⟩
      have hmin : (if (8 : Int) - t < j then (8 : Int) - t else j) = k := by split <;> omega
      obtain ⟨c, hc⟩ : ∃ c, B[p / 8]? = some c := ⟨B[p / 8]'(by omega), List.getElem?_eq_getElem _⟩
      have hc8 := hr.lt c (List.mem_of_getElem? hc)
      obtain ⟨ao, cap, hv, hcell⟩ := hr.sl
      obtain ⟨b, off, rfl, hcb⟩ := hcell _ c hc
      subst hv
      have c2 := hr.c2
      have hfz : ∀ o, wr.frozen? ⟨a, o, none⟩ = false := fun o => free_of hr.blk
      have hS : GS a b off (p / 8) B.length cap p c wr.drew := ⟨hr.c1, hr.c2, hcb⟩
      have HR := Lib.hid hr
      have HM := Lib.hid hm
      have ht8' : (t : Int) < 8 := by omega
      have hk0 : (0 : Int) ≤ k := by omega
      have hkt : (k : Int) ≤ 8 - t := by omega
      have hkj : (k : Int) ≤ j := by omega
      have hX : natOf (((unpack B).drop at_).take (n - j)) < 2 ^ (n - j) := by
        have h1 := natOf_lt (((unpack B).drop at_).take (n - j))
        have h2 : (((unpack B).drop at_).take (n - j)).length = n - j := by rw [List.length_take, List.length_drop, unpack_len]; omega
        rw [h2] at h1
        exact h1
      have hnew : natOf (((unpack B).drop at_).take (n - (j - k))) = natOf (((unpack B).drop at_).take (n - j)) * 2 ^ k + c / 2 ^ (8 - t - k) % 2 ^ k := by
        rw [show n - (j - k) = n - j + k by omega, take_more, natOf_append, hp]
        have hu := unpack_at (t := t) (k := k) hc (by omega)
        rw [show 8 * (p / 8) + t = p by omega] at hu
        rw [hu, natOf_bitsN, bitsN_len]
      have hE : bits .and .u8 ((c : Int) / 2 ^ min (8 - t - k) 8) (IntKind.u8.wrap (IntKind.u8.wrap ((2 : Int) ^ k) - 1)) = ((c / 2 ^ (8 - t - k) % 2 ^ k : Nat) : Int) := by
        have h1 : 1 ≤ 2 ^ k := Nat.one_le_two_pow
        have h2 : 2 ^ k ≤ 2 ^ 8 := Nat.pow_le_pow_right (by decide) (by omega)
        have e1 : (c : Int) / 2 ^ min (8 - t - k) 8 = ((c / 2 ^ (8 - t - k) : Nat) : Int) := by
          rw [Nat.min_eq_left (by omega)]
          norm_cast
        have e2 : IntKind.u8.wrap (IntKind.u8.wrap ((2 : Int) ^ k) - 1) = ((2 ^ k - 1 : Nat) : Int) := by
          have e : ((2 : Int) ^ k) = ((2 ^ k : Nat) : Int) := by norm_cast
          rw [e, IntKind.wrap_u8, IntKind.wrap_u8]
          omega
        rw [e1, e2, and8 _ _ (Nat.lt_of_le_of_lt (Nat.div_le_self _ _) hc8) (by omega), Nat.and_two_pow_sub_one_eq_mod]
      have hrk : c / 2 ^ (8 - t - k) % 2 ^ k < 2 ^ k := Nat.mod_lt _ (Nat.two_pow_pos _)
      have hE2 : bits .or .u64 (IntKind.u64.wrap (((natOf (((unpack B).drop at_).take (n - j)) : Nat) : Int) * 2 ^ k)) ((c / 2 ^ (8 - t - k) % 2 ^ k : Nat) : Int) = ((natOf (((unpack B).drop at_).take (n - (j - k))) : Nat) : Int) := by
        have h64 : natOf (((unpack B).drop at_).take (n - j)) * 2 ^ k < 2 ^ 64 := by
          calc natOf (((unpack B).drop at_).take (n - j)) * 2 ^ k < 2 ^ (n - j) * 2 ^ k := (Nat.mul_lt_mul_right (Nat.two_pow_pos _)).2 hX
            _ = 2 ^ (n - j + k) := by rw [← Nat.pow_add]
            _ ≤ 2 ^ 64 := Nat.pow_le_pow_right (by decide) (by omega)
        have h8 : c / 2 ^ (8 - t - k) % 2 ^ k < 2 ^ 64 := Nat.lt_of_lt_of_le hrk (Nat.pow_le_pow_right (by decide) (by omega))
        rw [hnew]
        have e : (((natOf (((unpack B).drop at_).take (n - j)) : Nat) : Int) * 2 ^ k) = ((natOf (((unpack B).drop at_).take (n - j)) * 2 ^ k : Nat) : Int) := by norm_cast
        rw [e, Bt.wrap64, Nat.mod_eq_of_lt h64, or64 _ _ h64 h8, or_add _ _ _ hrk]
      have hr256 : c / 2 ^ (8 - t - k) % 2 ^ k < 256 := Nat.lt_of_lt_of_le hrk (show 2 ^ k ≤ 2 ^ 8 from Nat.pow_le_pow_right (by decide) (by omega))
      have hwk : IntKind.i64.wrap (8 - (t : Int) - k) = ((8 - t - k : Nat) : Int) := by rw [IntWalk.i64_in _ (by omega)]; omega
      have hp8 : (p : Int) / 8 = ((p / 8 : Nat) : Int) := by omega
      have hq0 : (0 : Int) ≤ ((p / 8 : Nat) : Int) := by omega
      have hq1 : ((p / 8 : Nat) : Int) < (B.length : Int) := by omega
      have HNW := Lib.hid (rfl : natOf (((unpack B).drop at_).take (n - (j - k))) = natOf (((unpack B).drop at_).take (n - (j - k))))
      have hpk : at_ + (n - (j - k)) = p + k := by omega
      have hpl' : (p : Int) ≤ 400000 := by omega
      generalize c / 2 ^ (8 - t - k) % 2 ^ k = r at *
      generalize 8 - t - k = d at *
      generalize p / 8 = q at *
      obtain ⟨X', hX'⟩ : ∃ X', natOf (((unpack B).drop at_).take (n - (j - k))) = X' := ⟨_, rfl⟩
      rw [hX'] at hE2
      obtain ⟨X, hXX⟩ : ∃ X, natOf (((unpack B).drop at_).take (n - j)) = X := ⟨_, rfl⟩
      rw [hXX] at hE2 ⊢
      have HX' := Lib.hid hX'
      have HPK := Lib.hid hpk
      clear hr hm hcell hcb h2 hm2 hpe hX hnew hrk HNW hXX hX' hpk hp hpl ht hk hc hc8
      go_upto_region 13 with fail
      refine wp_region_x (GS a b off q B.length cap p c) [(0, 1), (1, 1), (2, 1), (3, 0), (4, 1), (5, 1), (6, 1), (7, 0), (8, 1), (9, 1), (10, 0), (11, 1), (12, 1), (13, 1), (14, 1), (15, 1), (16, 1), (17, 1), (18, 1), (19, 1)] (by kernel_rfl) (by kernel_rfl) (by intro d v c a w h; cases d <;> exact h) ?_
      iterate 3 (refine x_take rfl (fun K hK => ?_); go_simp; refine hK _ ?_; clear hK K)
      refine x_read rfl hS (fun w' h => exec_load1 ⟨⟨_, Tryz.underlying65, rfl⟩⟩ rfl h.c1) ?_
      iterate 3 (refine x_take rfl (fun K hK => ?_); go_simp; refine hK _ ?_; clear hK K)
      refine x_read rfl hS (fun w' h => exec_load1 ⟨⟨_, Tryz.underlying3, rfl⟩⟩ rfl h.c2) ?_
      iterate 2 (refine x_take rfl (fun K hK => ?_); go_simp; refine hK _ ?_; clear hK K)
      refine x_read rfl hS (fun w' h => exec_load1 ⟨⟨_, Tryz.underlying5, rfl⟩⟩ rfl h.cb) ?_
      iterate 9 (refine x_take rfl (fun K hK => ?_); go_simp; refine hK _ ?_; clear hK K)
      refine x_nil ?_
      go_wp2
      go_roundw
      case rel =>
        have hm := (Mod.refl (fun x => x = a) wr).setCell ⟨a, 2, none⟩ (.int .i64 ((p : Int) + k)) fun _ => rfl
        have hr := HR.out
        refine ⟨j - k, by omega, ?_, by rw [HX'.out], ?_, ?_⟩
        · go_num
        · rw [HPK.out]
          exact ⟨heap_setCell_at (o := 2) (v := .int .i64 ((p + k : Nat) : Int)) hr.blk, hr.bs.kept hm.size fun r hr' => hm.block r (hr.bs.lt hr') (hr.ne r hr'), hr.ne, hr.lt, hr.len⟩
        · exact HM.out.trans hm.drew (fun _ h => h) fun _ _ h => h
      case measure => simp [intOf]; omega
    · obtain rfl : j = 0 := by omega
      have HR := Lib.hid hr
      have HM := Lib.hid hm
      clear hr hm h2 hm2
      rw [Nat.sub_zero] at HR ⊢
      go_wp2
      go_ret
      exact ⟨rfl, HR.out, HM.out⟩
end
end Go.Proofs.YtipbaajdnnddgaaGreat

/- The reader of bits: where there is nothing to read; its end. -/
namespace Go.Proofs.YtipbaajdnnddgaaGreat
open Go.RowKit Go.Tn Go.Tn.Bt

section
variable {w : World} {a : Nat} {v : Value} {B : List Nat} {at_ err : Nat}
theorem get_err (h : RdAt w a v B at_ err) (he : err ≠ 0) (n : Nat) : Calls Tryz.prog 37 #[.pointer (some ⟨a, 0, none⟩), .int .i64 n] w
    fun e w' => e = .returned (.int .u64 0) ∧ w' = w := by
  have herr := rerr_any h
  have hne : ((err : Int) != 0) = true := by simp; omega
  clear h he
  go_enter Tryz.func37, Tryz.ntmps37
  go_wp2_with (go_at_call 39; refine herr.mono ?_; rintro e w2 ⟨rfl, hw⟩; obtain rfl := hw.symm; clear hw)
  go_ret
  exact ⟨rfl, rfl⟩
theorem get_short (h : RdAt w a v B at_ 0) (n : Nat) (hn : n ≤ 64) (hle0 : at_ ≤ 8 * B.length) (hat : 8 * B.length < at_ + n) : Calls Tryz.prog 37 #[.pointer (some ⟨a, 0, none⟩), .int .i64 n] w
    fun e w' => e = .returned (.int .u64 0) ∧ RdAt w' a v B at_ 3 ∧ Mod (fun x => x = a) w w' := by
  have herr := rerr_any h
  have hleft := left_any h hle0
  have hB := h.len
  have hle : 8 * B.length - at_ < n := by omega
  generalize 8 * B.length - at_ = lf at *
  have hn' : (n : Int) ≤ 64 := by omega
  have hdn : decide ((n : Int) < 0) = false := by simp
  have hdm : decide (64 < (n : Int)) = false := by simp; omega
  have hlfn : decide (lf < n) = true := by simp; omega
  have H := Lib.hid h
  clear h
  go_enter Tryz.func37, Tryz.ntmps37
  go_wp2_with fail
  refine herr.mono ?_
  rintro e w2 ⟨rfl, hw⟩
  obtain rfl := hw.symm
  clear hw herr
  go_wp2_with fail
  refine hleft.mono ?_
  rintro e w2 ⟨rfl, hb2⟩
  have h2 := H.out.below hb2
  have hm2 : Mod (fun x => x = a) w w2 := (Mod.of_below hb2).mono fun x hx h => absurd h (Nat.not_le.2 hx)
  have c3 := h2.c3
  have hf : ∀ o, w2.frozen? ⟨a, o, none⟩ = false := fun o => free_of h2.blk
  have H2 := Lib.hid h2
  clear hleft hb2 h2
  go_wp2_with fail
  go_ret
  have hm := (Mod.refl (fun x => x = a) w2).setCell ⟨a, 3, none⟩ (.int .i64 3) fun _ => rfl
  have hr := H2.out
  exact ⟨rfl, ⟨heap_setCell_at (o := 3) (v := .int .i64 ((3 : Nat) : Int)) hr.blk, hr.bs.kept hm.size fun r hr' => hm.block r (hr.bs.lt hr') (hr.ne r hr'), hr.ne, hr.lt, hr.len⟩, hm2.trans hm (fun _ h => h) fun _ _ h => h⟩
/-- What the end answers. -/
def endR (B : List Nat) (at_ err : Nat) : Nat :=
  if err ≠ 0 then err else if 8 ≤ 8 * B.length - at_ then 6 else if 0 < 8 * B.length - at_ ∧ B.getLastD 0 % 2 ^ (8 * B.length - at_) ≠ 0 then 6 else 0
theorem end_any (h : RdAt w a v B at_ err) (hle0 : at_ ≤ 8 * B.length) : Calls Tryz.prog 85 #[.pointer (some ⟨a, 0, none⟩)] w
    fun e w' => e = .returned (.int .i64 ((endR B at_ err : Nat) : Int)) ∧ Below w.heap.size w w' := by
  have herr := rerr_any h
  by_cases he : err = 0
  · subst he
    have hleft := left_any h hle0
    have hB := h.len
    by_cases h8 : 8 ≤ 8 * B.length - at_
    · have hE : endR B at_ 0 = 6 := by simp [endR, h8]
      rw [hE]
      have h8' : (8 : Int) ≤ ((8 * B.length - at_ : Nat) : Int) := by omega
      generalize 8 * B.length - at_ = lf at *
      clear h hE
      go_enter Tryz.func85, Tryz.ntmps85
      go_wp2_with fail
      refine herr.mono ?_
      rintro e w2 ⟨rfl, hw⟩
      obtain rfl := hw.symm
      clear hw herr
      go_wp2_with fail
      refine hleft.mono ?_
      rintro e w2 ⟨rfl, hb2⟩
      go_wp2
      go_ret
      exact ⟨rfl, hb2⟩
    · by_cases h0 : 0 < 8 * B.length - at_
      · obtain ⟨m, hm⟩ : ∃ m, B.length = m + 1 := ⟨B.length - 1, by omega⟩
        obtain ⟨c, hc⟩ : ∃ c, B[m]? = some c := ⟨B[m]'(by omega), List.getElem?_eq_getElem _⟩
        have hlast : B.getLastD 0 = c := by
          rw [List.getLastD_eq_getLast?, List.getLast?_eq_getElem?, hm]
          simp [hc]
        have hc8 := h.lt c (List.mem_of_getElem? hc)
        obtain ⟨k, hk⟩ : ∃ k, 8 * B.length - at_ = k := ⟨_, rfl⟩
        have hE : endR B at_ 0 = if c % 2 ^ k = 0 then 0 else 6 := by
          unfold endR
          rw [if_neg (by simp), hk, if_neg (by omega), hlast]
          by_cases hz : c % 2 ^ k = 0
          · rw [if_neg (by simp [hz]), if_pos hz]
          · rw [if_pos ⟨by omega, hz⟩, if_neg hz]
        rw [hE]
        rw [hk] at hleft
        obtain ⟨z, hz⟩ : ∃ z, c % 2 ^ k = z := ⟨_, rfl⟩
        have hmask : bits .and .u8 (c : Int) (IntKind.u8.wrap (IntKind.u8.wrap ((2 : Int) ^ k) - 1)) = ((z : Nat) : Int) := by
          have h1 : 1 ≤ 2 ^ k := Nat.one_le_two_pow
          have h2 : 2 ^ k ≤ 2 ^ 8 := Nat.pow_le_pow_right (by decide) (by omega)
          have e2 : IntKind.u8.wrap (IntKind.u8.wrap ((2 : Int) ^ k) - 1) = ((2 ^ k - 1 : Nat) : Int) := by
            have e : ((2 : Int) ^ k) = ((2 ^ k : Nat) : Int) := by norm_cast
            rw [e, IntKind.wrap_u8, IntKind.wrap_u8]
            omega
          rw [e2, and8 _ _ hc8 (by omega), Nat.and_two_pow_sub_one_eq_mod, hz]
        rw [hz]
        obtain ⟨ao, cap, rfl, hcell⟩ := h.sl
        obtain ⟨b, off, rfl, hcb⟩ := hcell _ c hc
        have H := Lib.hid h
        have HC := Lib.hid hcb
        have hwm : IntKind.i64.wrap (m : Int) = m := IntWalk.i64_in _ (by omega)
        have hm0 : (0 : Int) ≤ m := by omega
        have hm1 : (m : Int) < (m : Int) + 1 := by omega
        have hk0 : (0 : Int) < k := by omega
        have hk0n : 0 < k := by omega
        have hk0d : decide (0 < k) = true := by simp; omega
        have hk8 : (k : Int) < 8 := by omega
        have hk8' : ¬ (8 : Int) ≤ k := by omega
        have hbl := World.block_lt_of_cell? w _ hcb
        obtain ⟨rv, hrv⟩ : ∃ rv : Nat, (if z = 0 then 0 else 6) = rv := ⟨_, rfl⟩
        rw [hrv]
        have HRV := Lib.hid hrv
        clear hrv
        clear h hcb hcell hc hlast hk hz hE h8 h0
        go_enter Tryz.func85, Tryz.ntmps85
        go_wp2_with fail
        refine herr.mono ?_
        rintro e w2 ⟨rfl, hw⟩
        obtain rfl := hw.symm
        clear hw herr
        go_wp2_with fail
        refine hleft.mono ?_
        rintro e w2 ⟨rfl, hb2⟩
        have hS : GS a b off m (m + 1) cap at_ c w2.drew := by
          have h2 := H.out.below hb2
          have c1 := h2.c1
          rw [hm] at c1
          exact ⟨c1, h2.c2, (hb2.cell (p := ⟨b, off + m, none⟩) hbl).trans HC.out⟩
        clear hleft
        go_upto_region 7 with fail
        refine wp_region_g (GS a b off m (m + 1) cap at_ c) [(0, 1), (1, 1), (2, 1), (3, 1), (4, 1), (5, 1), (6, 0), (7, 1), (8, 1), (9, 1), (10, 0), (11, 1), (12, 1), (13, 1), (14, 0), (15, 1), (16, 1), (17, 1), (18, 1), (19, 1), (20, 1)] (by kernel_rfl) (by kernel_rfl) (by intro d v c a w h; cases d <;> exact h) ?_
        iterate 3 (refine g_take rfl rfl (fun K hK => ?_); go_simp; refine hK _ ?_; clear hK K)
        iterate 3 (refine g_take rfl rfl (fun K hK => ?_); go_simp; refine hK _ ?_; clear hK K)
        refine g_read rfl rfl hS (fun w' h => exec_load1 ⟨⟨_, Tryz.underlying65, rfl⟩⟩ rfl h.c1) ?_
        iterate 3 (refine g_take rfl rfl (fun K hK => ?_); go_simp; refine hK _ ?_; clear hK K)
        refine g_read rfl rfl hS (fun w' h => exec_load1 ⟨⟨_, Tryz.underlying65, rfl⟩⟩ rfl h.c1) ?_
        iterate 3 (refine g_take rfl rfl (fun K hK => ?_); go_simp; refine hK _ ?_; clear hK K)
        refine g_read rfl rfl hS (fun w' h => exec_load1 ⟨⟨_, Tryz.underlying5, rfl⟩⟩ rfl h.cb) ?_
        iterate 5 (refine g_take rfl rfl (fun K hK => ?_); go_simp; refine hK _ ?_; clear hK K)
        iterate 1 (refine g_take rfl rfl (fun K hK => ?_); go_simp; refine hK _ ?_; clear hK K)
        refine g_nil ?_
        clear hS
        by_cases hz : z = 0
        · subst hz
          have hzb : (((0 : Nat) : Int) != 0) = false := rfl
          go_wp2
          go_ret
          exact ⟨by rw [← HRV.out]; rfl, hb2.drew⟩
        · have hzi : ((z : Int) != 0) = true := by simp; omega
          go_wp2
          go_ret
          exact ⟨by rw [← HRV.out, if_neg hz]; rfl, hb2.drew⟩
      · have hE : endR B at_ 0 = 0 := by simp [endR, h8, h0]
        rw [hE]
        have h8' : 8 * B.length - at_ = 0 := by omega
        rw [h8'] at hleft
        clear h hE
        go_enter Tryz.func85, Tryz.ntmps85
        go_wp2_with fail
        refine herr.mono ?_
        rintro e w2 ⟨rfl, hw⟩
        obtain rfl := hw.symm
        clear hw herr
        go_wp2_with fail
        refine hleft.mono ?_
        rintro e w2 ⟨rfl, hb2⟩
        go_upto_region 7 with fail
        refine wp_region_g (fun _ => True) [(0, 1), (1, 1), (2, 1), (3, 1), (4, 1), (5, 1), (6, 0), (7, 1), (8, 1), (9, 1), (10, 0), (11, 1), (12, 1), (13, 1), (14, 0), (15, 1), (16, 1), (17, 1), (18, 1), (19, 1), (20, 1)] (by kernel_rfl) (by kernel_rfl) (by intro d v c a w h; cases d <;> exact h) ?_
        iterate 3 (refine g_take rfl rfl (fun K hK => ?_); go_simp; refine hK _ ?_; clear hK K)
        iterate 17 (refine g_offK rfl rfl (fun _ => trivial) (fun K hK => ?_); go_simp; refine hK _ ?_; clear hK K)
        iterate 1 (refine g_take rfl rfl (fun K hK => ?_); go_simp; refine hK _ ?_; clear hK K)
        refine g_nil ?_
        go_wp2
        go_ret
        exact ⟨rfl, hb2.drew⟩
  · have hE : endR B at_ err = err := by simp [endR, he]
    rw [hE]
    have hne : ((err : Int) != 0) = true := by simp; omega
    clear h he hE
    go_enter Tryz.func85, Tryz.ntmps85
    go_wp2_with (go_at_call 39; refine herr.mono ?_; rintro e w2 ⟨rfl, hw⟩; obtain rfl := hw.symm; clear hw)
    go_ret
    exact ⟨rfl, Below.refl _ _⟩
end
end Go.Proofs.YtipbaajdnnddgaaGreat

/- Fletcher's sum: in plain words, walked. -/
namespace Go.Tn.Lp
/-- One byte more. -/
def flStep (s : Nat × Nat) (c : Nat) : Nat × Nat := ((s.1 + c) % 65535, (s.2 + (s.1 + c) % 65535) % 65535)
def flOf (s : Nat) : Nat × Nat := (s % 65536 % 65535, s / 65536 % 65535)
def fadd (s : Nat) (b : List Nat) : Nat := (b.foldl flStep (flOf s)).2 * 65536 + (b.foldl flStep (flOf s)).1
def fsum (b : List Nat) : Nat := fadd 0 b
theorem flStep_lt (s : Nat × Nat) (c : Nat) : (flStep s c).1 < 65535 ∧ (flStep s c).2 < 65535 := ⟨Nat.mod_lt _ (by decide), Nat.mod_lt _ (by decide)⟩
theorem flOf_lt (s : Nat) : (flOf s).1 < 65535 ∧ (flOf s).2 < 65535 := ⟨Nat.mod_lt _ (by decide), Nat.mod_lt _ (by decide)⟩
theorem fold_lt : ∀ (b : List Nat) (s : Nat × Nat), s.1 < 65535 ∧ s.2 < 65535 → (b.foldl flStep s).1 < 65535 ∧ (b.foldl flStep s).2 < 65535
  | [], _, h => h
  | c :: b, s, _ => fold_lt b _ (flStep_lt s c)
theorem fadd_lt (s : Nat) (b : List Nat) : fadd s b < 4294967296 := by
  have := fold_lt b _ (flOf_lt s)
  unfold fadd
  omega
theorem fsum_lt (b : List Nat) : fsum b < 4294967296 := fadd_lt 0 b
end Go.Tn.Lp
namespace Go.Proofs.YtipbaajdnnddgaaGreat
open Go.RowKit Go.Tn Go.Tn.Bt Go.Tn.Lp

theorem aggH (f s : Int) : AggT Tryz.prog 202 (#[.int .u32 f, .int .u32 s] : Array Value).size := ⟨⟨_, Tryz.underlying202, rfl⟩, by kernel_rfl⟩
theorem fof_any (w : World) (s : Nat) (hs : s < 4294967296) : Calls Tryz.prog 131 #[.int .u32 s] w
    fun e w' => e = .returned (.agg #[.int .u32 ((flOf s).1 : Nat), .int .u32 ((flOf s).2 : Nat)]) ∧ Below w.heap.size w w' := by
  have ha := and32 s 65535 hs (by decide)
  rw [show s &&& 65535 = s % 65536 from Nat.and_two_pow_sub_one_eq_mod s 16] at ha
  have hs' : (s : Int) < 4294967296 := by omega
  have ha' : bits .and .u32 (s : Int) 65535 = ((s % 65536 : Nat) : Int) := ha
  clear ha
  have hm : s % 65536 < 65536 := Nat.mod_lt _ (by decide)
  unfold flOf
  simp only
  generalize hq : s % 65536 = q at *
  have hd : (s : Int) / 65536 = ((s / 65536 : Nat) : Int) := by omega
  have hdl : s / 65536 < 65536 := by omega
  generalize s / 65536 = d at *
  go_enter Tryz.func131, Tryz.ntmps131
  go_wp2
  (try simp only [Exit.inBlock, Exit.then])
  refine bodyPost_ret (results_cellA rfl _ rfl (aggH _ _) (lies_of heap_alloc_at)) rfl ?_
  refine ⟨?_, (Below.refl _ _).alloc (Nat.le_refl _) _⟩
  rw [show (q : Int) % 65535 = ((q % 65535 : Nat) : Int) by omega, show (d : Int) % 65535 = ((d % 65535 : Nat) : Int) by omega]
theorem ftake_any (w : World) (f s c : Nat) (hf : f < 65535) (hs : s < 65535) (hc : c < 256) : Calls Tryz.prog 132 #[.agg #[.int .u32 f, .int .u32 s], .int .u8 c] w
    fun e w' => e = .returned (.agg #[.int .u32 ((flStep (f, s) c).1 : Nat), .int .u32 ((flStep (f, s) c).2 : Nat)]) ∧ Below w.heap.size w w' := by
  have hf' : (f : Int) < 65535 := by omega
  have hs' : (s : Int) < 65535 := by omega
  have hc' : (c : Int) < 256 := by omega
  go_enter Tryz.func132, Tryz.ntmps132
  go_wp2
  (try simp only [Exit.inBlock, Exit.then])
  have e : ∀ o, (w.alloc o).heap.size = w.heap.size + 1 := fun o => by simp
  refine bodyPost_ret (results_cellA rfl _ rfl (aggH ((f + c : Int) % 65535) ((s + (f + c) : Int) % 65535)) (lies_of (t := 202) (fr := (0, 0)) ?_)) rfl ?_
  · rw [← e]
    exact heap_alloc_at
  refine ⟨?_, ((Below.refl _ _).alloc (Nat.le_refl _) _).alloc (by simp) _⟩
  unfold flStep
  simp only
  rw [show ((f : Int) + c) % 65535 = (((f + c) % 65535 : Nat) : Int) by omega, show ((s : Int) + (f + c)) % 65535 = (((s + (f + c) % 65535) % 65535 : Nat) : Int) by omega]
theorem fwhole_any (w : World) (f s : Nat) (hf : f < 65535) (hs : s < 65535) : Calls Tryz.prog 133 #[.agg #[.int .u32 f, .int .u32 s]] w
    fun e w' => e = .returned (.int .u32 (s * 65536 + f : Nat)) ∧ Below w.heap.size w w' := by
  have hf' : (f : Int) < 65535 := by omega
  have hs' : (s : Int) < 65535 := by omega
  have hor : bits .or .u32 ((s : Int) * 65536) (f : Int) = ((s * 65536 + f : Nat) : Int) := by
    have h := or32 (s * 65536) f (by omega) (by omega)
    rw [show s * 65536 ||| f = s * 65536 + f from or_add s f 16 (by omega)] at h
    rw [← h]
    rfl
  go_enter Tryz.func133, Tryz.ntmps133
  go_wp2
  go_ret
  exact ⟨rfl, (Below.refl _ _).alloc (Nat.le_refl _) _⟩
theorem fadd_any (w : World) (s : Nat) (hs : s < 4294967296) (v : Value) (bs : List Nat) (h : LSl en8 1 w v bs) (hlt : ∀ x ∈ bs, x < 256) (hl : bs.length ≤ 50000) : Calls Tryz.prog 119 #[.int .u32 s, v] w
    fun e w' => e = .returned (.int .u32 (fadd s bs : Nat)) ∧ Below w.heap.size w w' := by
  obtain ⟨ao, cap, rfl, h1, h2, h3⟩ := h
  unfold maxLen at h2
  go_enter Tryz.func119, Tryz.ntmps119
  go_wp2_with fail
  refine (fof_any w s hs).mono ?_
  rintro e w2 ⟨rfl, hb2⟩
  have hb3 : Below w.heap.size w (w2.alloc (.cells #[.int .u32 ((flOf s).1 : Nat), .int .u32 ((flOf s).2 : Nat)] 202)) := hb2.alloc hb2.size _
  have hH : (w2.alloc (.cells #[.int .u32 ((flOf s).1 : Nat), .int .u32 ((flOf s).2 : Nat)] 202)).heap[w2.heap.size]? = some (.cells #[.int .u32 ((flOf s).1 : Nat), .int .u32 ((flOf s).2 : Nat)] 202 (0, 0)) := heap_alloc_at
  have hbz := hb2.size
  clear hb2
  go_wp2_with fail
  go_loopw [12] (fun jv wi => ∃ k : Nat, k ≤ bs.length ∧ jv = .int .i64 k ∧ wi.heap[w2.heap.size]? = some (.cells #[.int .u32 (((bs.take k).foldl flStep (flOf s)).1 : Nat), .int .u32 (((bs.take k).foldl flStep (flOf s)).2 : Nat)] 202 (0, 0)) ∧ Below w.heap.size w wi) (fun jv _ => bs.length - (intOf jv).toNat)
  case atStart => exact ⟨0, Nat.zero_le _, rfl, hH, hb3⟩
  case round =>
    obtain ⟨k, hk, rfl, hH, hb⟩ := hrel
    clear hb3
    have hft := fold_lt (bs.take k) _ (flOf_lt s)
    by_cases hkl : k < bs.length
    · have hkl' : (k : Int) < (bs.length : Int) := by omega
      obtain ⟨c, hc⟩ : ∃ c, bs[k]? = some c := ⟨bs[k], List.getElem?_eq_getElem hkl⟩
      have hc8 := hlt c (List.mem_of_getElem? hc)
      obtain ⟨b, off, rfl, hbl, hcells⟩ := h3 (by omega)
      have hcell := (hcells k c hc).below' hb hbl 0 (by simp)
      simp only [Nat.mul_one, Nat.add_zero] at hcell
      have hnx : (bs.take (k + 1)).foldl flStep (flOf s) = flStep ((bs.take k).foldl flStep (flOf s)) c := by
        rw [List.take_add_one, hc]
        simp [List.foldl_append]
      obtain ⟨⟨f, g⟩, hfg⟩ : ∃ x, (bs.take k).foldl flStep (flOf s) = x := ⟨_, rfl⟩
      rw [hfg] at hH hft hnx
      simp only at hH hft
      have c0 : wr.cell? ⟨w2.heap.size, 0, none⟩ = some (.int .u32 f) := cell_of hH rfl
      have c1 : wr.cell? ⟨w2.heap.size, 1, none⟩ = some (.int .u32 g) := cell_of hH rfl
      have HC : wr.cell? ⟨b, off + k, none⟩ = some (.int .u8 (c : Nat)) := hcell
      have HB := Lib.hid hb
      have HH := Lib.hid hH
      have HNX := Lib.hid hnx
      have ht := ftake_any wr f g c hft.1 hft.2 hc8
      have hzlt := lt_of_block hH
      clear hb hH hnx hfg hcells hcell hc
      go_wp2_with fail
      refine ht.mono ?_
      rintro e w4 ⟨rfl, hb4⟩
      have hH4 := (hb4.block _ hzlt).trans HH.out
      have d0 : w4.cell? ⟨w2.heap.size, 0, none⟩ = some (.int .u32 f) := cell_of hH4 rfl
      have d1 : w4.cell? ⟨w2.heap.size, 1, none⟩ = some (.int .u32 g) := cell_of hH4 rfl
      have hf4 : ∀ o, w4.frozen? ⟨w2.heap.size, o, none⟩ = false := fun o => free_of hH4
      have HH4 := Lib.hid hH4
      have HB4 := Lib.hid (HB.out.trans (hb4.mono HB.out.size))
      clear hb4 hH4 ht c0 c1 HC
      generalize flStep (f, g) c = fg2 at *
      go_wp2
      go_roundw
      case rel =>
        refine ⟨k + 1, by omega, by go_num, ?_, ?_⟩
        · rw [HNX.out]
          exact heap_setCell_at (heap_setCell_at HH4.out)
        · exact (HB4.out.setCell (p := ⟨w2.heap.size, 0, none⟩) hbz _).setCell (p := ⟨w2.heap.size, 1, none⟩) hbz _
      case measure => simp [intOf]; omega
    · obtain rfl : k = bs.length := by omega
      rw [List.take_length] at hH hft
      have c0 : wr.cell? ⟨w2.heap.size, 0, none⟩ = _ := cell_of hH rfl
      have c1 : wr.cell? ⟨w2.heap.size, 1, none⟩ = _ := cell_of hH rfl
      have hw := fwhole_any wr _ _ hft.1 hft.2
      have HB := Lib.hid hb
      obtain ⟨z, hz⟩ : ∃ z, (bs.foldl flStep (flOf s)).2 * 65536 + (bs.foldl flStep (flOf s)).1 = z := ⟨_, rfl⟩
      have HE : Hid (fadd s bs = z) := Lib.hid hz
      rw [hz] at hw
      clear hb hH hz
      generalize bs.foldl flStep (flOf s) = x at *
      go_wp2_with fail
      refine hw.mono ?_
      rintro e w4 ⟨rfl, hb4⟩
      go_wp2
      go_ret
      exact ⟨by rw [HE.out]; rfl, HB.out.trans (hb4.mono HB.out.size)⟩
theorem fsum_any (w : World) (v : Value) (bs : List Nat) (h : LSl en8 1 w v bs) (hlt : ∀ x ∈ bs, x < 256) (hl : bs.length ≤ 50000) : Calls Tryz.prog 114 #[v] w
    fun e w' => e = .returned (.int .u32 (fsum bs : Nat)) ∧ Below w.heap.size w w' := by
  have ha := fadd_any w 0 (by decide) v bs h hlt hl
  obtain ⟨ao, cap, rfl, _⟩ := h
  unfold fsum
  generalize fadd 0 bs = x at *
  go_enter Tryz.func114, Tryz.ntmps114
  go_wp2_with fail
  refine ha.mono ?_
  rintro e w2 ⟨rfl, hb2⟩
  go_wp2
  go_ret
  exact ⟨rfl, hb2⟩
end Go.Proofs.YtipbaajdnnddgaaGreat
