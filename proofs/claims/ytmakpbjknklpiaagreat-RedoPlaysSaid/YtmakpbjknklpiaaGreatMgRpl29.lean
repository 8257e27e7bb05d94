/- The document's Cut, walked. -/
import Derived.Test.YtmakpbjknklpiaaGreatMgRpl28
import Derived.Test.YtmakpbjknklpiaaGreatMgRpl20
import Derived.Test.YtmakpbjknklpiaaGreatMgRpl16
import Derived.Test.YtmakpbjknklpiaaGreatMgRpl9
/- The document's Fits, Number, reader: walked. -/
namespace Go.Proofs.YtmakpbjknklpiaaGreat
open Go.RowKit Go.Tn Go.Tn.Bt Go.Tn.Lp Go.Tn.Dk
theorem yfits40 (w : World) (x : Nat) (hx : x < 2 ^ 40) : Calls Tryz.prog 113 #[.int .u64 x, .int .i64 40] w fun e w' => e = .returned (.bool true) ∧ w' = w := by
  have h1 : (x : Int) < 1099511627776 := by omega
  have hd : decide ((x : Int) < 1099511627776) = true := decide_eq_true h1
  go_enter Tryz.func113, Tryz.ntmps113
  go_wp2
  go_ret
  exact ⟨rfl, rfl⟩
theorem yfits24 (w : World) (x : Nat) (hx : x < 2 ^ 24) : Calls Tryz.prog 113 #[.int .u64 x, .int .i64 24] w fun e w' => e = .returned (.bool true) ∧ w' = w := by
  have h1 : (x : Int) < 16777216 := by omega
  have hd : decide ((x : Int) < 16777216) = true := decide_eq_true h1
  go_enter Tryz.func113, Tryz.ntmps113
  go_wp2
  go_ret
  exact ⟨rfl, rfl⟩
set_option maxRecDepth 20000 in
theorem rbnumber_any (w : World) (v : Value) (l : List Bool) (h : LSl en8 1 w v (b01 l)) (hl : l.length ≤ 64) : Calls Tryz.prog 106 #[v] w
    fun e w' => e = .returned (.int .u64 (natOf l : Nat)) ∧ w' = w := by
  obtain ⟨ao, cap, rfl, h1, h2, h3⟩ := h
  rw [b01_len] at h1 h3 ⊢
  unfold maxLen at h2
  have hl63 : (l.length : Int) ≤ 64 := by omega
  go_enter Tryz.func106, Tryz.ntmps106
  go_wp2
  go_loopw [3, 4] (fun xv jv wi => ∃ k : Nat, k ≤ l.length ∧ jv = .int .i64 k ∧ xv = .int .u64 (natOf (l.take k) : Nat) ∧ wi = w) (fun _ jv _ => l.length - (intOf jv).toNat)
  case atStart => exact ⟨0, Nat.zero_le _, rfl, rfl, rfl⟩
  case round =>
    obtain ⟨k, hk, rfl, rfl, hw⟩ := hrel
    obtain rfl := hw.symm
    clear hw
    by_cases hkl : k < l.length
    · have hkl' : (k : Int) < (l.length : Int) := by omega
      have hd1 : decide (k < l.length) = true := by simp [hkl]
      obtain ⟨c, hc⟩ : ∃ c, l[k]? = some c := ⟨l[k], List.getElem?_eq_getElem hkl⟩
      obtain ⟨b, off, rfl, hbl, hcells⟩ := h3 (by omega)
      have hcell : w.cell? ⟨b, off + k, none⟩ = some (.int .u8 ((c.toNat : Nat) : Int)) := by
        have := hcells k _ (b01_get hc) 0 (by simp)
        simpa using this
      have hlen : (l.take k).length = k := by rw [List.length_take]; omega
      have hX := natOf_lt (l.take k)
      rw [hlen] at hX
      have hnx : natOf (l.take (k + 1)) = natOf (l.take k) * 2 + c.toNat := by
        rw [List.take_add_one, hc, natOf_append]
        simp [natOf]
      have h56 : 2 ^ k ≤ 2 ^ 63 := Nat.pow_le_pow_right (by decide) (by omega)
      obtain ⟨X, hXX⟩ : ∃ X, natOf (l.take k) = X := ⟨_, rfl⟩
      rw [hXX] at hX hnx ⊢
      have hXlt : X < 9223372036854775808 := Nat.lt_of_lt_of_le hX h56
      have hXi : (X : Int) < 9223372036854775808 := by omega
      have hc1 : c.toNat ≤ 1 := by cases c <;> decide
      generalize c.toNat = z at *
      have hz1 : (z : Int) ≤ 1 := by omega
      have HN := Lib.hid hnx
      clear hcells hc hnx hXX hX h56 hlen
      go_wp2
      go_roundw
      case rel => exact ⟨k + 1, by omega, by go_num, by rw [HN.out]; rfl, trivial⟩
      case measure => simp [intOf]; omega
    · obtain rfl : k = l.length := by omega
      have hd1 : decide (l.length < l.length) = false := by simp
      have HT : Hid (l.take l.length = l) := Lib.hid (List.take_length ..)
      rw [HT.out]
      go_wp2
      go_ret
      exact ⟨rfl, rfl⟩
/-- The document's reader in memory: what is left of the bytes' bits, an error. -/
structure RBt (w : World) (r : Nat) (B : List Nat) (at_ err : Nat) : Prop where
  ex : ∃ (a : Option Addr) (n c : Nat), w.heap[r]? = some (.cells #[.slice a n c, .int .i64 (err : Nat)] 134 (0, 0)) ∧ LSl en8 1 w (.slice a n c) (b01 ((unpack B).drop at_)) ∧ ∀ k, (Value.slice a n c).ownBlock = some k → k < r
  len : B.length ≤ 10000
  err : err < 256
  le : at_ ≤ 8 * B.length
theorem RBt.below {w w' : World} {r : Nat} {B : List Nat} {at_ err : Nat} (h : RBt w r B at_ err) (hb : Below w.heap.size w w') : RBt w' r B at_ err := by
  obtain ⟨a, n, c, h1, h2, h3⟩ := h.ex
  exact ⟨⟨a, n, c, (hb.block _ (lt_of_block h1)).trans h1, h2.below hb, h3⟩, h.len, h.err, h.le⟩
theorem RBt.mod {w w' : World} {r : Nat} {B : List Nat} {at_ err : Nat} {S : Nat → Prop} (h : RBt w r B at_ err) (hm : Mod S w w') (hS : ∀ b, S b → r < b) : RBt w' r B at_ err := by
  obtain ⟨a, n, c, h1, h2, h3⟩ := h.ex
  exact ⟨⟨a, n, c, hm.heap h1 fun e => Nat.lt_irrefl _ (hS r e), h2.mod hm fun k hk e => Nat.lt_asymm (h3 k hk) (hS k e), h3⟩, h.len, h.err, h.le⟩
theorem RBt.lt {w : World} {r : Nat} {B : List Nat} {at_ err : Nat} (h : RBt w r B at_ err) : r < w.heap.size := by
  obtain ⟨a, n, c, h1, -⟩ := h.ex
  exact lt_of_block h1
theorem b01_take (l : List Bool) (n : Nat) : (b01 l).take n = b01 (l.take n) := by unfold b01; rw [List.map_take]
theorem b01_drop (l : List Bool) (n : Nat) : (b01 l).drop n = b01 (l.drop n) := by unfold b01; rw [List.map_drop]
set_option maxRecDepth 20000 in
set_option maxHeartbeats 4000000 in
theorem rbget_any {w : World} {r : Nat} {B : List Nat} {at_ err : Nat} (h : RBt w r B at_ err) (n : Nat) (hn : n ≤ 64) : Calls Tryz.prog 78 #[.pointer (some ⟨r, 0, none⟩), .int .i64 n] w
    fun e w' => e = .returned (.int .u64 ((getA B at_ err n).1 : Nat)) ∧ RBt w' r B (getA B at_ err n).2.1 (getA B at_ err n).2.2 ∧ Mod (fun b => b = r) w w' := by
  have HD := Lib.hid h
  have hlen := h.len
  have herr := h.err
  have hle := h.le
  obtain ⟨a, m, c, h1, h2, h3⟩ := h.ex
  have c0 := cell_of (o := 0) h1 rfl
  have c1 := cell_of (o := 1) h1 rfl
  have g0 := free_of (o := 0) h1
  have g1 := free_of (o := 1) h1
  obtain ⟨ao, cap, hv, q1, q2, q3⟩ := id h2
  obtain ⟨rfl, rfl, rfl⟩ : a = ao ∧ m = (b01 ((unpack B).drop at_)).length ∧ c = cap := by simpa using hv
  have hbl : (b01 ((unpack B).drop at_)).length = 8 * B.length - at_ := by rw [b01_len, List.length_drop, unpack_len]
  rw [hbl] at h1 h2 h3 c0 q1
  obtain ⟨L, hL⟩ : ∃ L, 8 * B.length - at_ = L := ⟨_, rfl⟩
  rw [hL] at h1 h2 h3 c0 q1
  have hL63 : (L : Int) ≤ 80000 := by omega
  have hn63 : (n : Int) ≤ 64 := by omega
  have hn0 : decide ((n : Int) < 0) = false := decide_eq_false (by omega)
  have hn64 : decide ((64 : Int) < (n : Int)) = false := decide_eq_false (by omega)
  unfold maxLen at q2
  have H1 := Lib.hid h1
  have H2 := Lib.hid h2
  have H3 := Lib.hid h3
  have HL := Lib.hid hL
  have HBL := Lib.hid hbl
  clear h h1 h2 h3 hv q3 hL hbl
  by_cases he : err = 0
  rotate_left
  · have e1 : getA B at_ err n = (0, at_, err) := by unfold getA; rw [if_pos he]
    have he1 : (((err : Nat) : Int) != 0) = true := by rw [bne_iff_ne]; omega
    rw [e1]
    go_enter Tryz.func78, Tryz.ntmps78
    go_wp2
    go_ret
    exact ⟨rfl, HD.out, Mod.refl _ _⟩
  subst he
  simp only [Int.natCast_zero] at c1
  by_cases hfit : at_ + n ≤ 8 * B.length
  · have e1 : getA B at_ 0 n = (natOf (((unpack B).drop at_).take n), at_ + n, 0) := by unfold getA; rw [if_neg (by simp), if_pos hfit]
    have hnL : n ≤ L := by have := HL.out; omega
    have hgt : decide ((L : Int) < (n : Int)) = false := decide_eq_false (by omega)
    have hgt' : decide (L < n) = false := decide_eq_false (by omega)
    have htk := LSl.take H2.out (i := n) (by rw [HBL.out, HL.out]; exact hnL)
    rw [b01_take] at htk
    have hnum := rbnumber_any w _ _ htk (by rw [List.length_take]; omega)
    obtain ⟨ad, had⟩ : ∃ ad, (if c = n then a else a.map (·.add (n * 1))) = ad := ⟨_, rfl⟩
    obtain ⟨ln, hln⟩ : ∃ ln, L - n = ln := ⟨_, rfl⟩
    obtain ⟨cn, hcn⟩ : ∃ cn, c - n = cn := ⟨_, rfl⟩
    have hdr := LSl.drop2 H2.out (i := n) (by rw [HBL.out, HL.out]; exact hnL) had hln hcn
    rw [b01_drop, List.drop_drop] at hdr
    have hown : ∀ k, (Value.slice ad ln cn).ownBlock = some k → (Value.slice a L c).ownBlock = some k := fun k hk => by
      rw [← had] at hk
      split at hk
      · cases a with
        | none => simp [Value.ownBlock] at hk
        | some a => simpa [Value.ownBlock] using hk
      · cases a with
        | none => simp [Value.ownBlock] at hk
        | some a =>
          have e : (a.add (n * 1)).block = a.block := by unfold Addr.add; split <;> rfl
          simp only [Option.map_some, Value.ownBlock, e] at hk ⊢
          exact hk
    obtain ⟨N, hN⟩ : ∃ N, natOf (((unpack B).drop at_).take n) = N := ⟨_, rfl⟩
    rw [hN] at hnum e1
    clear hN
    rw [e1]
    have hnc : (n : Int) ≤ (c : Int) := by omega
    have hnL' : (n : Int) ≤ (L : Int) := by omega
    have hm : Mod (fun b => b = r) w (w.setCell ⟨r, 0, none⟩ (.slice ad ln cn)) := (Mod.refl _ _).setCell _ _ fun _ => rfl
    have hh := heap_setCell_at (o := 0) (v := .slice ad ln cn) H1.out
    have hfin : RBt (w.setCell ⟨r, 0, none⟩ (.slice ad ln cn)) r B (at_ + n) 0 :=
      ⟨⟨ad, ln, cn, hh, hdr.mod hm fun k hk e => absurd (H3.out k (hown k hk)) (by rw [e]; exact Nat.lt_irrefl _), fun k hk => H3.out k (hown k hk)⟩, hlen, by decide, hfit⟩
    have HFIN := Lib.hid hfin
    have HM := Lib.hid hm
    have HAD := Lib.hid had
    have HLN := Lib.hid hln
    have HCN := Lib.hid hcn
    clear hfin hm hh hdr hown had hln hcn htk e1 hfit
    go_enter Tryz.func78, Tryz.ntmps78
    clear hle hlen herr
    go_upto_region 10 with (first
      | (go_at_call 106; refine hnum.mono ?_; rintro e w2 ⟨rfl, hw⟩; obtain rfl := hw.symm; clear hw; go_frame)
      | fail)
    go_wp2_with (first
      | ((with_reducible refine wpList_exec rfl (exec_sliceLo2 Tryz.underlying53 size8 hnL HAD.out HLN.out HCN.out ?_ ?_) ?_); rfl; rfl; go_frame)
      | fail)
    go_ret
    exact ⟨rfl, HFIN.out, HM.out⟩
  · have e1 : getA B at_ 0 n = (0, at_, 3) := by unfold getA; rw [if_neg (by simp), if_neg hfit]
    have hgt : decide ((L : Int) < (n : Int)) = true := decide_eq_true (by have := HL.out; omega)
    have hgt' : decide (L < n) = true := decide_eq_true (by have := HL.out; omega)
    rw [e1]
    have hm : Mod (fun b => b = r) w (w.setCell ⟨r, 1, none⟩ (.int .i64 3)) := (Mod.refl _ _).setCell _ _ fun _ => rfl
    have hh := heap_setCell_at (o := 1) (v := .int .i64 3) H1.out
    have hfin : RBt (w.setCell ⟨r, 1, none⟩ (.int .i64 3)) r B at_ 3 :=
      ⟨⟨a, L, c, hh, H2.out.mod hm fun k hk e => absurd (H3.out k hk) (by rw [e]; exact Nat.lt_irrefl _), H3.out⟩, hlen, by decide, hle⟩
    have HFIN := Lib.hid hfin
    have HM := Lib.hid hm
    clear hfin hm hh e1 hfit
    go_enter Tryz.func78, Tryz.ntmps78
    go_wp2
    go_ret
    exact ⟨rfl, HFIN.out, HM.out⟩
theorem natOf_tail {B : List Nat} {at_ : Nat} (h0 : 0 < 8 * B.length - at_) (h8 : 8 * B.length - at_ < 8) : natOf ((unpack B).drop at_) = B.getLastD 0 % 2 ^ (8 * B.length - at_) := by
  have hl : 1 ≤ B.length := by omega
  obtain ⟨c, hc⟩ : ∃ c, B[B.length - 1]? = some c := ⟨_, List.getElem?_eq_getElem (by omega)⟩
  have hd : (unpack B).drop at_ = ((unpack B).drop (8 * (B.length - 1) + (8 - (8 * B.length - at_)))).take (8 * B.length - at_) := by
    rw [show 8 * (B.length - 1) + (8 - (8 * B.length - at_)) = at_ by omega]
    exact (List.take_of_length_le (by rw [List.length_drop, unpack_len]; exact Nat.le_refl _)).symm
  rw [hd, unpack_at hc (by omega), natOf_bitsN]
  have hg : B.getLastD 0 = c := by
    rw [List.getLastD_eq_getLast?, List.getLast?_eq_getElem?, hc]
    rfl
  rw [hg, show 8 - (8 - (8 * B.length - at_)) - (8 * B.length - at_) = 0 by omega]
  simp
set_option maxRecDepth 20000 in
set_option maxHeartbeats 4000000 in
theorem rbend_any {w : World} {r : Nat} {B : List Nat} {at_ err : Nat} (h : RBt w r B at_ err) : Calls Tryz.prog 79 #[.pointer (some ⟨r, 0, none⟩)] w
    fun e w' => e = .returned (.int .i64 (endR B at_ err : Nat)) ∧ w' = w := by
  have hlen := h.len
  have herr := h.err
  have hle := h.le
  obtain ⟨a, m, c, h1, h2, h3⟩ := h.ex
  have c0 := cell_of (o := 0) h1 rfl
  have c1 := cell_of (o := 1) h1 rfl
  obtain ⟨ao, cap, hv, q1, q2, q3⟩ := id h2
  obtain ⟨rfl, rfl, rfl⟩ : a = ao ∧ m = (b01 ((unpack B).drop at_)).length ∧ c = cap := by simpa using hv
  have hbl : (b01 ((unpack B).drop at_)).length = 8 * B.length - at_ := by rw [b01_len, List.length_drop, unpack_len]
  rw [hbl] at h2 c0 q1
  obtain ⟨L, hL⟩ : ∃ L, 8 * B.length - at_ = L := ⟨_, rfl⟩
  have hnt := natOf_tail (B := B) (at_ := at_)
  unfold endR
  rw [hL] at h2 c0 q1 hnt ⊢
  have hL63 : (L : Int) ≤ 80000 := by omega
  unfold maxLen at q2
  have HBL := Lib.hid (hbl.trans hL)
  clear h h1 h3 hv q3 hL hbl
  by_cases he : err = 0
  rotate_left
  · have he1 : (((err : Nat) : Int) != 0) = true := by rw [bne_iff_ne]; omega
    rw [if_pos he]
    go_enter Tryz.func79, Tryz.ntmps79
    go_wp2
    go_ret
    exact ⟨rfl, rfl⟩
  subst he
  rw [if_neg (by simp)]
  simp only [Int.natCast_zero] at c1
  by_cases h8 : 8 ≤ L
  · have hge : decide ((8 : Int) ≤ (L : Int)) = true := decide_eq_true (by omega)
    have hge' : decide (8 ≤ L) = true := decide_eq_true h8
    rw [if_pos h8]
    go_enter Tryz.func79, Tryz.ntmps79
    go_wp2
    go_ret
    exact ⟨rfl, rfl⟩
  have hge : decide ((8 : Int) ≤ (L : Int)) = false := decide_eq_false (by omega)
  have hge' : decide (8 ≤ L) = false := decide_eq_false h8
  rw [if_neg h8]
  have hnum := rbnumber_any w _ _ h2 (by have := HBL.out; rw [b01_len] at this; omega)
  obtain ⟨N, hN⟩ : ∃ N, natOf ((unpack B).drop at_) = N := ⟨_, rfl⟩
  rw [hN] at hnum hnt
  have hn0 : L = 0 → N = 0 := fun e => by
    have hl0 : ((unpack B).drop at_).length = 0 := by have := HBL.out; rw [b01_len] at this; omega
    rw [← hN, List.eq_nil_of_length_eq_zero hl0]
    rfl
  have hres : (if 0 < L ∧ B.getLastD 0 % 2 ^ L ≠ 0 then 6 else 0) = if N = 0 then 0 else 6 := by
    by_cases h0 : 0 < L
    · rw [← hnt h0 (by omega)]
      by_cases hz : N = 0
      · rw [if_neg (by simp [hz]), if_pos hz]
      · rw [if_pos ⟨h0, hz⟩, if_neg hz]
    · rw [if_neg (by simp [h0]), if_pos (hn0 (by omega))]
  rw [hres]
  clear hN hnt hres hn0 h8
  by_cases hz : N = 0
  · subst hz
    rw [if_pos rfl]
    go_enter Tryz.func79, Tryz.ntmps79
    go_wp2_with (first
      | (go_at_call 106; refine hnum.mono ?_; rintro e w2 ⟨rfl, hw⟩; obtain rfl := hw.symm; clear hw; go_frame)
      | fail)
    go_ret
    exact ⟨rfl, rfl⟩
  · have hz1 : (((N : Nat) : Int) != 0) = true := by rw [bne_iff_ne]; omega
    rw [if_neg hz]
    clear hz
    go_enter Tryz.func79, Tryz.ntmps79
    go_wp2_with (first
      | (go_at_call 106; refine hnum.mono ?_; rintro e w2 ⟨rfl, hw⟩; obtain rfl := hw.symm; clear hw; go_frame)
      | fail)
    go_ret
    exact ⟨rfl, rfl⟩
end Go.Proofs.YtmakpbjknklpiaaGreat

/- The document's Cut, walked. -/
namespace Go.Proofs.YtmakpbjknklpiaaGreat
open Go.RowKit Go.Tn Go.Tn.Bt Go.Tn.Lp Go.Tn.Dk
theorem elPx : ElT Tryz.prog 85 93 5 enPc := ⟨Tryz.underlying85, by kernel_rfl, by decide, fun _ => rfl, elPc.one⟩
/-- The document's pieces in a slice of one's own. -/
def PcsX (B : Nat) (w : World) (v : Value) (ps : List Pc) : Prop := ∃ xs : List (Pc × Sv), xs.map (·.1) = ps ∧ LOut enPc 5 93 B w v xs ∧ DatF B w v xs
theorem PcsX.below {B : Nat} {w w' : World} {v : Value} {ps : List Pc} (h : PcsX B w v ps) (hb : Below w.heap.size w w') : PcsX B w' v ps := by
  obtain ⟨xs, h1, h2, h3⟩ := h
  exact ⟨xs, h1, h2.below hb, h3.below hb⟩
theorem PcsX.rd {B : Nat} {w : World} {v : Value} {ps : List Pc} (h : PcsX B w v ps) : PcsI w v ps := by
  obtain ⟨xs, h1, h2, h3⟩ := h
  exact ⟨xs, h1, h2.sl elPx.len, fun x hx => (h3 x hx).1⟩
theorem DatF.pushX {B : Nat} {w w2 w4 : World} {v v4 : Value} {xs : List (Pc × Sv)} {x : Pc × Sv} (hD : DatF B w2 v xs) (hO : LOut enPc 5 93 B w v xs) (hs : w.heap.size ≤ w2.heap.size) (hx : LSl en8 1 w2 (sv x.2) x.1.da) (hxl : ∀ r, (sv x.2).ownBlock = some r → w.heap.size ≤ r ∧ r < w2.heap.size)
    (hB : B ≤ w.heap.size) (hm : Mod (fun b => v.ownBlock = some b) w2 w4) (hv : v4.ownBlock = v.ownBlock ∨ ∃ r, v4.ownBlock = some r ∧ w2.heap.size ≤ r) : DatF B w4 v4 (xs ++ [x]) := by
  intro y hy
  have key : LSl en8 1 w2 (sv y.2) y.1.da ∧ ∀ r, (sv y.2).ownBlock = some r → B ≤ r ∧ r < w2.heap.size ∧ v.ownBlock ≠ some r := by
    rcases List.mem_append.1 hy with hy | hy
    · exact hD y hy
    · rw [List.mem_singleton.1 hy]
      refine ⟨hx, fun r hr => ⟨Nat.le_trans hB (hxl r hr).1, (hxl r hr).2, fun e => ?_⟩⟩
      have := hO.lt e
      have := (hxl r hr).1
      omega
  refine ⟨key.1.mod hm fun r hr => (key.2 r hr).2.2, fun r hr => ⟨(key.2 r hr).1, Nat.lt_of_lt_of_le (key.2 r hr).2.1 hm.size, ?_⟩⟩
  rcases hv with hv | ⟨r', hv, hr'⟩
  · rw [hv]; exact (key.2 r hr).2.2
  · rw [hv]
    intro e
    cases e
    have := (key.2 _ hr).2.1
    omega
theorem cut_more {bs : List Nat} {m : Nat} (h1 : 1 ≤ m) (hm : m ≤ cutN bs) : (m * 106 < bs.length ↔ m < cutN bs) := by
  unfold cutN at *
  omega
set_option maxRecDepth 20000 in
set_option maxHeartbeats 4000000 in
theorem ycut_main (w : World) (ep ct : Nat) (v : Value) (bs : List Nat) (h : LSl en8 1 w v bs) (hep : ep ≤ 16777215) (hct : ct ≤ 1099511627775) (hn : cutN bs - 1 ≤ 1099511627775 - ct) (hl : bs.length ≤ 8192) :
    Calls Tryz.prog 57 #[.int .u64 ep, .int .u64 ct, v] w fun e w' => Below w.heap.size w w' ∧ ∃ v', e = .returned (.tuple #[v', .int .i64 0]) ∧ PcsX w.heap.size w' v' (cutL ep ct bs) := by
  have hsl := h
  have hn1 := cutN_pos bs
  have hn2 := cutN_le bs
  unfold cutL
  have hmore := fun m => cut_more (bs := bs) (m := m)
  obtain ⟨n, hne⟩ : ∃ n, cutN bs = n := ⟨_, rfl⟩
  rw [hne] at hn hn1 hn2 ⊢
  simp only [hne] at hmore
  obtain ⟨ao, cap, rfl, h1, h2, h3⟩ := h
  unfold maxLen at h2
  have he1 : decide ((16777215 : Int) < ep) = false := decide_eq_false (by omega)
  have he2 : decide ((1099511627775 : Int) < ct) = false := decide_eq_false (by omega)
  have he3 : decide ((1099511627775 : Int) - ct < (n : Int) - 1) = false := decide_eq_false (by omega)
  have he4 : decide ((8192 : Int) < bs.length) = false := decide_eq_false (by omega)
  have hep' : (ep : Int) ≤ 16777215 := by omega
  have hct' : (ct : Int) ≤ 1099511627775 := by omega
  have hn1' : (1 : Int) ≤ n := by omega
  have hn2' : (n : Int) ≤ 9000 := by omega
  have hbl63 : (bs.length : Int) ≤ 8192 := by omega
  have HNE := Lib.hid hne
  have HMORE := Lib.hid hmore
  have HSL := Lib.hid hsl
  clear hne h3 hmore hsl
  go_enter Tryz.func57, Tryz.ntmps57
  go_wp2_with fail
  go_loopw [8] (fun mv wi => ∃ m : Nat, 1 ≤ m ∧ m ≤ n ∧ mv = .int .i64 m ∧ wi = w) (fun mv _ => n - (intOf mv).toNat)
  case atStart => exact ⟨1, Nat.le_refl _, hn1, rfl, rfl⟩
  case round =>
    obtain ⟨m, hm1, hmn, rfl, hw⟩ := hrel
    obtain rfl := hw.symm
    clear hw
    have hmi : (m : Int) ≤ 9000 := by omega
    have hiff := HMORE.out m hm1 hmn
    by_cases hlt : m < n
    · have hd : decide ((m : Int) * 106 < (bs.length : Int)) = true := decide_eq_true (by have := hiff.2 hlt; omega)
      have HIFF := Lib.hid hiff
      clear hiff
      go_wp2
      go_roundw
      case rel => exact ⟨m + 1, by omega, by omega, by go_num, trivial⟩
      case measure => simp [intOf]; omega
    · have hd : decide ((m : Int) * 106 < (bs.length : Int)) = false := decide_eq_false (by have := mt hiff.1 hlt; omega)
      obtain rfl : m = n := by omega
      clear hiff hmi
      go_wp2_with fail
      go_loopw [2, 9, 10, 11] (fun bv ov iv _ wi => ∃ k : Nat, k ≤ m ∧ iv = .int .i64 k ∧ LSl en8 1 w bv (bs.drop (106 * k)) ∧ Below w.heap.size w wi ∧ ∃ xs : List (Pc × Sv), xs.map (·.1) = (List.range k).map (pieceAt ep ct bs) ∧ LOut enPc 5 93 w.heap.size wi ov xs ∧ DatF w.heap.size wi ov xs) (fun _ _ iv _ _ => m - (intOf iv).toNat)
      case atStart => exact ⟨0, Nat.zero_le _, rfl, HSL.out, Below.refl _ _, [], rfl, LOut.nil (Nat.le_refl _), fun x hx => by cases hx⟩
      case round =>
        obtain ⟨k, hk, rfl, hbv, hb, xs, hxs, hO, hD⟩ := hrel
        by_cases hkn : k < m
        · have hdk : decide (k < m) = true := by simp [hkn]
          have hkn' : (k : Int) < (m : Int) := by omega
          have hlen : (bs.drop (106 * k)).length ≤ 8192 := by rw [List.length_drop]; omega
          have hpc : pieceAt ep ct bs k = ⟨ep, ct + k, decide (k = 0), decide (k + 1 = m), (bs.drop (106 * k)).take 106⟩ := by unfold pieceAt; rw [HNE.out]
          have hnx := cut_drop bs k
          have htk := cut_take (bs.drop (106 * k))
          have hxl : xs.length = k := by
            have := congrArg List.length hxs
            simpa using this
          generalize bs.drop (106 * k) = cs at *
          have hbv0 := hbv
          obtain ⟨a1, c1, rfl, h4, h5, -⟩ := hbv
          unfold maxLen at h5
          obtain ⟨j, hj⟩ : ∃ j, min cs.length 106 = j := ⟨_, rfl⟩
          rw [hj] at hnx htk
          have hjl : j ≤ cs.length := by omega
          have hrc := rcut_any wr _ cs (hbv0.below hb) 106 (by decide)
          rw [show ((106 : Nat) : Int) = 106 from rfl] at hrc
          obtain ⟨ad, had⟩ : ∃ ad, (if c1 = j then a1 else a1.map (·.add (j * 1))) = ad := ⟨_, rfl⟩
          obtain ⟨ln, hln⟩ : ∃ ln, cs.length - j = ln := ⟨_, rfl⟩
          obtain ⟨cn, hcn⟩ : ∃ cn, c1 - j = cn := ⟨_, rfl⟩
          have hdr := hbv0.drop2 (i := j) hjl had hln hcn
          rw [hnx] at hdr
          have hlt106 : (cs.take 106).length = j := by rw [List.length_take]; omega
          have hol : xs.length ≤ 1000000000 := by omega
          obtain ⟨f0, hf0⟩ : ∃ f, decide (k = 0) = f := ⟨_, rfl⟩
          obtain ⟨l0, hl0⟩ : ∃ f, decide (k + 1 = m) = f := ⟨_, rfl⟩
          rw [hf0, hl0] at hpc
          have hf1 : ((k : Int) == 0) = f0 := by rw [← hf0, Bool.eq_iff_iff]; simp
          have hf2 : ((k : Int) == (m : Int) - 1) = l0 := by rw [← hl0, Bool.eq_iff_iff]; simp; omega
          have hjl' : (j : Int) ≤ (cs.length : Int) := by omega
          have HPC := Lib.hid hpc
          have HXS := Lib.hid hxs
          have HB := Lib.hid hb
          have HD := Lib.hid hD
          have HO := Lib.hid hO
          have HDR := Lib.hid hdr
          have HAD := Lib.hid had
          have HLN := Lib.hid hln
          have HCN := Lib.hid hcn
          have HJ := Lib.hid hj
          have HJL := Lib.hid hlt106
          have hoS := hO.shape
          clear hpc hxs hb hD hO hdr had hln hcn hj hnx htk hxl hf0 hl0 hbv0 hlt106
          obtain ⟨a9, n9, c9, rfl⟩ := hoS
          go_upto_region 13 with (first
            | (go_at_call 46; refine hrc.mono ?_; rintro e w2 ⟨v2, rfl, h2c, hw⟩; obtain rfl := hw.symm; clear hw hrc)
            | fail)
          have hcp := rcopy_any wr _ _ h2c (by rw [HJL.out]; omega)
          obtain ⟨a2, c2, rfl, -, -, -⟩ := id h2c
          rw [HJL.out] at hcp ⊢
          clear h2c
          go_upto_region 14 with (first
            | (go_at_call 45; refine hcp.mono ?_; rintro e w3 ⟨v3, rfl, hO3, hb3⟩; obtain ⟨a3, n3, c3, rfl⟩ := LOut.shape hO3; have HO3 := Lib.hid hO3; have HB3 := Lib.hid hb3; clear hO3 hb3 hcp; go_frame)
            | ((with_reducible refine wpList_append1Y elPx (HO.out.below HB3.out) (⟨ep, ct + k, f0, l0, cs.take 106⟩, (a3, n3, c3)) hol ?_ ?_ ?_ ?_); rfl; rfl; rfl; (intro v4 w4 hO4 hm4 hv4; obtain ⟨a4, n4, c4, rfl⟩ := LOut.shape hO4; have HO4 := Lib.hid hO4; have HM4 := Lib.hid hm4; have HV4 := Lib.hid hv4; clear hO4 hm4 hv4); go_frame)
            | fail)
          go_wp2_with (first
            | ((with_reducible refine wpList_exec rfl (exec_sliceLo2 Tryz.underlying53 size8 hjl HAD.out HLN.out HCN.out ?_ ?_) ?_); rfl; rfl; go_frame)
            | fail)
          have hb2 : Below w.heap.size w w3 := HB.out.trans (HB3.out.mono HB.out.size)
          have hb4 : Below w.heap.size w w4 := hb2.trans (HM4.out.below (Nat.le_trans HB.out.size HB3.out.size) fun x hx e => by have := HO.out.lo x e; omega)
          go_roundw
          case rel =>
            refine ⟨k + 1, by omega, by go_num, HDR.out, hb4, xs ++ [(⟨ep, ct + k, f0, l0, cs.take 106⟩, (a3, n3, c3))], ?_, HO4.out, ?_⟩
            · rw [List.map_append, HXS.out, List.range_succ, List.map_append, List.map_singleton, List.map_singleton, HPC.out]
            · exact DatF.pushX (HD.out.below HB3.out) HO.out HB3.out.size (HO3.out.sl el8.len) (fun r hr => ⟨HO3.out.lo r hr, HO3.out.lt hr⟩) HB.out.size HM4.out HV4.out
          case measure => simp [intOf]; omega
        · obtain rfl : k = m := by omega
          have hdk : decide (k < k) = false := by simp
          have HXS := Lib.hid hxs
          have HB := Lib.hid hb
          have HD := Lib.hid hD
          have HO := Lib.hid hO
          obtain ⟨a2, n2, c2, rfl⟩ := hO.shape
          clear hxs hb hD hO hbv
          go_wp2
          go_ret2
          exact ⟨HB.out, _, rfl, xs, HXS.out, HO.out, HD.out⟩
end Go.Proofs.YtmakpbjknklpiaaGreat
