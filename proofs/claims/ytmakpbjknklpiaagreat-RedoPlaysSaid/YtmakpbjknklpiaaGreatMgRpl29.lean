/- The document's Of (a record's transaction), walked. -/
import Derived.Test.YtmakpbjknklpiaaGreatMgRpl28
import Derived.Test.YtmakpbjknklpiaaGreatMgRpl20
import Derived.Test.YtmakpbjknklpiaaGreatMgRpl16
import Derived.Test.YtmakpbjknklpiaaGreatMgRpl9
import Derived.Test.YtmakpbjknklpiaaGreatMgRpl24
/- The document's Fits, Number, reader: walked. -/
namespace Go.Proofs.YtmakpbjknklpiaaGreat
open Go.RowKit Go.Tn Go.Tn.Bt Go.Tn.Lp Go.Tn.Dk
theorem yfits40 (w : World) (x : Nat) (hx : x < 2 ^ 40) : Calls Tryz.prog 113 #[.int .u64 x, .int .i64 40] w fun e w' => e = .returned (.bool true) ∧ w' = w := by
  have h1 : (x : Int) < 1099511627776 := by omega
  have hd : decide ((x : Int) < 1099511627776) = true := decide_eq_true h1
  go_enter Tryz.func113, Tryz.ntmps113
  go_wp2
  go_ret
  exact ⟨rfl, rfl⟩
theorem yfits24 (w : World) (x : Nat) (hx : x < 2 ^ 24) : Calls Tryz.prog 113 #[.int .u64 x, .int .i64 24] w fun e w' => e = .returned (.bool true) ∧ w' = w := by
  have h1 : (x : Int) < 16777216 := by omega
  have hd : decide ((x : Int) < 16777216) = true := decide_eq_true h1
  go_enter Tryz.func113, Tryz.ntmps113
  go_wp2
  go_ret
  exact ⟨rfl, rfl⟩
set_option maxRecDepth 20000 in
theorem rbnumber_any (w : World) (v : Value) (l : List Bool) (h : LSl en8 1 w v (b01 l)) (hl : l.length ≤ 64) : Calls Tryz.prog 106 #[v] w
    fun e w' => e = .returned (.int .u64 (natOf l : Nat)) ∧ w' = w := by
  obtain ⟨ao, cap, rfl, h1, h2, h3⟩ := h
  rw [b01_len] at h1 h3 ⊢
  unfold maxLen at h2
  have hl63 : (l.length : Int) ≤ 64 := by omega
  go_enter Tryz.func106, Tryz.ntmps106
  go_wp2
  go_loopw [3, 4] (fun xv jv wi => ∃ k : Nat, k ≤ l.length ∧ jv = .int .i64 k ∧ xv = .int .u64 (natOf (l.take k) : Nat) ∧ wi = w) (fun _ jv _ => l.length - (intOf jv).toNat)
  case atStart => exact ⟨0, Nat.zero_le _, rfl, rfl, rfl⟩
  case round =>
    obtain ⟨k, hk, rfl, rfl, hw⟩ := hrel
    obtain rfl := hw.symm
    clear hw
    by_cases hkl : k < l.length
    · have hkl' : (k : Int) < (l.length : Int) := by omega
      have hd1 : decide (k < l.length) = true := by simp [hkl]
      obtain ⟨c, hc⟩ : ∃ c, l[k]? = some c := ⟨l[k], List.getElem?_eq_getElem hkl⟩
      obtain ⟨b, off, rfl, hbl, hcells⟩ := h3 (by omega)
      have hcell : w.cell? ⟨b, off + k, none⟩ = some (.int .u8 ((c.toNat : Nat) : Int)) := by
        have := hcells k _ (b01_get hc) 0 (by simp)
        simpa using this
      have hlen : (l.take k).length = k := by rw [List.length_take]; omega
      have hX := natOf_lt (l.take k)
      rw [hlen] at hX
      have hnx : natOf (l.take (k + 1)) = natOf (l.take k) * 2 + c.toNat := by
        rw [List.take_add_one, hc, natOf_append]
        simp [natOf]
      have h56 : 2 ^ k ≤ 2 ^ 63 := Nat.pow_le_pow_right (by decide) (by omega)
      obtain ⟨X, hXX⟩ : ∃ X, natOf (l.take k) = X := ⟨_, rfl⟩
      rw [hXX] at hX hnx ⊢
      have hXlt : X < 9223372036854775808 := Nat.lt_of_lt_of_le hX h56
      have hXi : (X : Int) < 9223372036854775808 := by omega
      have hc1 : c.toNat ≤ 1 := by cases c <;> decide
      generalize c.toNat = z at *
      have hz1 : (z : Int) ≤ 1 := by omega
      have HN := Lib.hid hnx
      clear hcells hc hnx hXX hX h56 hlen
      go_wp2
      go_roundw
      case rel => exact ⟨k + 1, by omega, by go_num, by rw [HN.out]; rfl, trivial⟩
      case measure => simp [intOf]; omega
    · obtain rfl : k = l.length := by omega
      have hd1 : decide (l.length < l.length) = false := by simp
      have HT : Hid (l.take l.length = l) := Lib.hid (List.take_length ..)
      rw [HT.out]
      go_wp2
      go_ret
      exact ⟨rfl, rfl⟩
/-- The document's reader in memory: what is left of the bytes' bits, an error. -/
structure RBt (w : World) (r : Nat) (B : List Nat) (at_ err : Nat) : Prop where
  ex : ∃ (a : Option Addr) (n c : Nat), w.heap[r]? = some (.cells #[.slice a n c, .int .i64 (err : Nat)] 134 (0, 0)) ∧ LSl en8 1 w (.slice a n c) (b01 ((unpack B).drop at_)) ∧ ∀ k, (Value.slice a n c).ownBlock = some k → k < r
  len : B.length ≤ 10000
  err : err < 256
  le : at_ ≤ 8 * B.length
theorem RBt.below {w w' : World} {r : Nat} {B : List Nat} {at_ err : Nat} (h : RBt w r B at_ err) (hb : Below w.heap.size w w') : RBt w' r B at_ err := by
  obtain ⟨a, n, c, h1, h2, h3⟩ := h.ex
  exact ⟨⟨a, n, c, (hb.block _ (lt_of_block h1)).trans h1, h2.below hb, h3⟩, h.len, h.err, h.le⟩
theorem RBt.mod {w w' : World} {r : Nat} {B : List Nat} {at_ err : Nat} {S : Nat → Prop} (h : RBt w r B at_ err) (hm : Mod S w w') (hS : ∀ b, S b → r < b) : RBt w' r B at_ err := by
  obtain ⟨a, n, c, h1, h2, h3⟩ := h.ex
  exact ⟨⟨a, n, c, hm.heap h1 fun e => Nat.lt_irrefl _ (hS r e), h2.mod hm fun k hk e => Nat.lt_asymm (h3 k hk) (hS k e), h3⟩, h.len, h.err, h.le⟩
theorem RBt.lt {w : World} {r : Nat} {B : List Nat} {at_ err : Nat} (h : RBt w r B at_ err) : r < w.heap.size := by
  obtain ⟨a, n, c, h1, -⟩ := h.ex
  exact lt_of_block h1
theorem b01_take (l : List Bool) (n : Nat) : (b01 l).take n = b01 (l.take n) := by unfold b01; rw [List.map_take]
theorem b01_drop (l : List Bool) (n : Nat) : (b01 l).drop n = b01 (l.drop n) := by unfold b01; rw [List.map_drop]
set_option maxRecDepth 20000 in
set_option maxHeartbeats 4000000 in
theorem rbget_any {w : World} {r : Nat} {B : List Nat} {at_ err : Nat} (h : RBt w r B at_ err) (n : Nat) (hn : n ≤ 64) : Calls Tryz.prog 78 #[.pointer (some ⟨r, 0, none⟩), .int .i64 n] w
    fun e w' => e = .returned (.int .u64 ((getA B at_ err n).1 : Nat)) ∧ RBt w' r B (getA B at_ err n).2.1 (getA B at_ err n).2.2 ∧ Mod (fun b => b = r) w w' := by
  have HD := Lib.hid h
  have hlen := h.len
  have herr := h.err
  have hle := h.le
  obtain ⟨a, m, c, h1, h2, h3⟩ := h.ex
  have c0 := cell_of (o := 0) h1 rfl
  have c1 := cell_of (o := 1) h1 rfl
  have g0 := free_of (o := 0) h1
  have g1 := free_of (o := 1) h1
  obtain ⟨ao, cap, hv, q1, q2, q3⟩ := id h2
  obtain ⟨rfl, rfl, rfl⟩ : a = ao ∧ m = (b01 ((unpack B).drop at_)).length ∧ c = cap := by simpa using hv
  have hbl : (b01 ((unpack B).drop at_)).length = 8 * B.length - at_ := by rw [b01_len, List.length_drop, unpack_len]
  rw [hbl] at h1 h2 h3 c0 q1
  obtain ⟨L, hL⟩ : ∃ L, 8 * B.length - at_ = L := ⟨_, rfl⟩
  rw [hL] at h1 h2 h3 c0 q1
  have hL63 : (L : Int) ≤ 80000 := by omega
  have hn63 : (n : Int) ≤ 64 := by omega
  have hn0 : decide ((n : Int) < 0) = false := decide_eq_false (by omega)
  have hn64 : decide ((64 : Int) < (n : Int)) = false := decide_eq_false (by omega)
  unfold maxLen at q2
  have H1 := Lib.hid h1
  have H2 := Lib.hid h2
  have H3 := Lib.hid h3
  have HL := Lib.hid hL
  have HBL := Lib.hid hbl
  clear h h1 h2 h3 hv q3 hL hbl
  by_cases he : err = 0
  rotate_left
  · have e1 : getA B at_ err n = (0, at_, err) := by unfold getA; rw [if_pos he]
    have he1 : (((err : Nat) : Int) != 0) = true := by rw [bne_iff_ne]; omega
    rw [e1]
    go_enter Tryz.func78, Tryz.ntmps78
    go_wp2
    go_ret
    exact ⟨rfl, HD.out, Mod.refl _ _⟩
  subst he
  simp only [Int.natCast_zero] at c1
  by_cases hfit : at_ + n ≤ 8 * B.length
  · have e1 : getA B at_ 0 n = (natOf (((unpack B).drop at_).take n), at_ + n, 0) := by unfold getA; rw [if_neg (by simp), if_pos hfit]
    have hnL : n ≤ L := by have := HL.out; omega
    have hgt : decide ((L : Int) < (n : Int)) = false := decide_eq_false (by omega)
    have hgt' : decide (L < n) = false := decide_eq_false (by omega)
    have htk := LSl.take H2.out (i := n) (by rw [HBL.out, HL.out]; exact hnL)
    rw [b01_take] at htk
    have hnum := rbnumber_any w _ _ htk (by rw [List.length_take]; omega)
    obtain ⟨ad, had⟩ : ∃ ad, (if c = n then a else a.map (·.add (n * 1))) = ad := ⟨_, rfl⟩
    obtain ⟨ln, hln⟩ : ∃ ln, L - n = ln := ⟨_, rfl⟩
    obtain ⟨cn, hcn⟩ : ∃ cn, c - n = cn := ⟨_, rfl⟩
    have hdr := LSl.drop2 H2.out (i := n) (by rw [HBL.out, HL.out]; exact hnL) had hln hcn
    rw [b01_drop, List.drop_drop] at hdr
    have hown : ∀ k, (Value.slice ad ln cn).ownBlock = some k → (Value.slice a L c).ownBlock = some k := fun k hk => by
      rw [← had] at hk
      split at hk
      · cases a <;> simpa [Value.ownBlock] using hk
      · cases a with
        | none => simpa [Value.ownBlock] using hk
        | some a =>
          have e : (a.add (n * 1)).block = a.block := by unfold Addr.add; split <;> rfl
          simp only [Option.map_some, Value.ownBlock, e] at hk ⊢
          exact hk
    obtain ⟨N, hN⟩ : ∃ N, natOf (((unpack B).drop at_).take n) = N := ⟨_, rfl⟩
    rw [hN] at hnum e1
    clear hN
    rw [e1]
    have hnc : (n : Int) ≤ (c : Int) := by omega
    have hnL' : (n : Int) ≤ (L : Int) := by omega
    have hm : Mod (fun b => b = r) w (w.setCell ⟨r, 0, none⟩ (.slice ad ln cn)) := (Mod.refl _ _).setCell _ _ fun _ => rfl
    have hh := heap_setCell_at (o := 0) (v := .slice ad ln cn) H1.out
    have hfin : RBt (w.setCell ⟨r, 0, none⟩ (.slice ad ln cn)) r B (at_ + n) 0 :=
      ⟨⟨ad, ln, cn, hh, hdr.mod hm fun k hk e => absurd (H3.out k (hown k hk)) (by rw [e]; exact Nat.lt_irrefl _), fun k hk => H3.out k (hown k hk)⟩, hlen, by decide, hfit⟩
    have HFIN := Lib.hid hfin
    have HM := Lib.hid hm
    have HAD := Lib.hid had
    have HLN := Lib.hid hln
    have HCN := Lib.hid hcn
    clear hfin hm hh hdr hown had hln hcn htk e1 hfit
    go_enter Tryz.func78, Tryz.ntmps78
    clear hle hlen herr
    go_upto_region 10 with (first
      | (go_at_call 106; refine hnum.mono ?_; rintro e w2 ⟨rfl, hw⟩; obtain rfl := hw.symm; clear hw; go_frame)
      | fail)
    go_wp2_with (first
      | ((with_reducible refine wpList_exec rfl (exec_sliceLo2 Tryz.underlying53 size8 hnL HAD.out HLN.out HCN.out ?_ ?_) ?_); rfl; rfl; go_frame)
      | fail)
    go_ret
    exact ⟨rfl, HFIN.out, HM.out⟩
  · have e1 : getA B at_ 0 n = (0, at_, 3) := by unfold getA; rw [if_neg (by simp), if_neg hfit]
    have hgt : decide ((L : Int) < (n : Int)) = true := decide_eq_true (by have := HL.out; omega)
    have hgt' : decide (L < n) = true := decide_eq_true (by have := HL.out; omega)
    rw [e1]
    have hm : Mod (fun b => b = r) w (w.setCell ⟨r, 1, none⟩ (.int .i64 3)) := (Mod.refl _ _).setCell _ _ fun _ => rfl
    have hh := heap_setCell_at (o := 1) (v := .int .i64 3) H1.out
    have hfin : RBt (w.setCell ⟨r, 1, none⟩ (.int .i64 3)) r B at_ 3 :=
      ⟨⟨a, L, c, hh, H2.out.mod hm fun k hk e => absurd (H3.out k hk) (by rw [e]; exact Nat.lt_irrefl _), H3.out⟩, hlen, by decide, hle⟩
    have HFIN := Lib.hid hfin
    have HM := Lib.hid hm
    clear hfin hm hh e1 hfit
    go_enter Tryz.func78, Tryz.ntmps78
    go_wp2
    go_ret
    exact ⟨rfl, HFIN.out, HM.out⟩
theorem natOf_tail {B : List Nat} {at_ : Nat} (h0 : 0 < 8 * B.length - at_) (h8 : 8 * B.length - at_ < 8) : natOf ((unpack B).drop at_) = B.getLastD 0 % 2 ^ (8 * B.length - at_) := by
  have hl : 1 ≤ B.length := by omega
  obtain ⟨c, hc⟩ : ∃ c, B[B.length - 1]? = some c := ⟨_, List.getElem?_eq_getElem (by omega)⟩
  have hd : (unpack B).drop at_ = ((unpack B).drop (8 * (B.length - 1) + (8 - (8 * B.length - at_)))).take (8 * B.length - at_) := by
    rw [show 8 * (B.length - 1) + (8 - (8 * B.length - at_)) = at_ by omega]
    exact (List.take_of_length_le (by rw [List.length_drop, unpack_len]; exact Nat.le_refl _)).symm
  rw [hd, unpack_at hc (by omega), natOf_bitsN]
  have hg : B.getLastD 0 = c := by
    rw [List.getLastD_eq_getLast?, List.getLast?_eq_getElem?, hc]
    rfl
  rw [hg, show 8 - (8 - (8 * B.length - at_)) - (8 * B.length - at_) = 0 by omega]
  simp
set_option maxRecDepth 20000 in
set_option maxHeartbeats 4000000 in
theorem rbend_any {w : World} {r : Nat} {B : List Nat} {at_ err : Nat} (h : RBt w r B at_ err) : Calls Tryz.prog 79 #[.pointer (some ⟨r, 0, none⟩)] w
    fun e w' => e = .returned (.int .i64 (endR B at_ err : Nat)) ∧ w' = w := by
  have hlen := h.len
  have herr := h.err
  have hle := h.le
  obtain ⟨a, m, c, h1, h2, h3⟩ := h.ex
  have c0 := cell_of (o := 0) h1 rfl
  have c1 := cell_of (o := 1) h1 rfl
  obtain ⟨ao, cap, hv, q1, q2, q3⟩ := id h2
  obtain ⟨rfl, rfl, rfl⟩ : a = ao ∧ m = (b01 ((unpack B).drop at_)).length ∧ c = cap := by simpa using hv
  have hbl : (b01 ((unpack B).drop at_)).length = 8 * B.length - at_ := by rw [b01_len, List.length_drop, unpack_len]
  rw [hbl] at h2 c0 q1
  obtain ⟨L, hL⟩ : ∃ L, 8 * B.length - at_ = L := ⟨_, rfl⟩
  have hnt := natOf_tail (B := B) (at_ := at_)
  unfold endR
  rw [hL] at h2 c0 q1 hnt ⊢
  have hL63 : (L : Int) ≤ 80000 := by omega
  unfold maxLen at q2
  have HBL := Lib.hid (hbl.trans hL)
  clear h h1 h3 hv q3 hL hbl
  by_cases he : err = 0
  rotate_left
  · have he1 : (((err : Nat) : Int) != 0) = true := by rw [bne_iff_ne]; omega
    rw [if_pos he]
    go_enter Tryz.func79, Tryz.ntmps79
    go_wp2
    go_ret
    exact ⟨rfl, rfl⟩
  subst he
  rw [if_neg (by simp)]
  simp only [Int.natCast_zero] at c1
  by_cases h8 : 8 ≤ L
  · have hge : decide ((8 : Int) ≤ (L : Int)) = true := decide_eq_true (by omega)
    have hge' : decide (8 ≤ L) = true := decide_eq_true h8
    rw [if_pos h8]
    go_enter Tryz.func79, Tryz.ntmps79
    go_wp2
    go_ret
    exact ⟨rfl, rfl⟩
  have hge : decide ((8 : Int) ≤ (L : Int)) = false := decide_eq_false (by omega)
  have hge' : decide (8 ≤ L) = false := decide_eq_false h8
  rw [if_neg h8]
  have hnum := rbnumber_any w _ _ h2 (by have := HBL.out; rw [b01_len] at this; omega)
  obtain ⟨N, hN⟩ : ∃ N, natOf ((unpack B).drop at_) = N := ⟨_, rfl⟩
  rw [hN] at hnum hnt
  have hn0 : L = 0 → N = 0 := fun e => by
    have hl0 : ((unpack B).drop at_).length = 0 := by have := HBL.out; rw [b01_len] at this; omega
    rw [← hN, List.eq_nil_of_length_eq_zero hl0]
    rfl
  have hres : (if 0 < L ∧ B.getLastD 0 % 2 ^ L ≠ 0 then 6 else 0) = if N = 0 then 0 else 6 := by
    by_cases h0 : 0 < L
    · rw [← hnt h0 (by omega)]
      by_cases hz : N = 0
      · rw [if_neg (by simp [hz]), if_pos hz]
      · rw [if_pos ⟨h0, hz⟩, if_neg hz]
    · rw [if_neg (by simp [h0]), if_pos (hn0 (by omega))]
  rw [hres]
  clear hN hnt hres hn0 h8
  by_cases hz : N = 0
  · subst hz
    rw [if_pos rfl]
    go_enter Tryz.func79, Tryz.ntmps79
    go_wp2_with (first
      | (go_at_call 106; refine hnum.mono ?_; rintro e w2 ⟨rfl, hw⟩; obtain rfl := hw.symm; clear hw; go_frame)
      | fail)
    go_ret
    exact ⟨rfl, rfl⟩
  · have hz1 : (((N : Nat) : Int) != 0) = true := by rw [bne_iff_ne]; omega
    rw [if_neg hz]
    clear hz
    go_enter Tryz.func79, Tryz.ntmps79
    go_wp2_with (first
      | (go_at_call 106; refine hnum.mono ?_; rintro e w2 ⟨rfl, hw⟩; obtain rfl := hw.symm; clear hw; go_frame)
      | fail)
    go_ret
    exact ⟨rfl, rfl⟩
end Go.Proofs.YtmakpbjknklpiaaGreat

/- The document's Cut, walked. -/
namespace Go.Proofs.YtmakpbjknklpiaaGreat
open Go.RowKit Go.Tn Go.Tn.Bt Go.Tn.Lp Go.Tn.Dk
theorem elPx : ElT Tryz.prog 85 93 5 enPc := ⟨Tryz.underlying85, by kernel_rfl, by decide, fun _ => rfl, elPc.one⟩
/-- The document's pieces in a slice of one's own. -/
def PcsX (B : Nat) (w : World) (v : Value) (ps : List Pc) : Prop := ∃ xs : List (Pc × Sv), xs.map (·.1) = ps ∧ LOut enPc 5 93 B w v xs ∧ DatF B w v xs
theorem PcsX.below {B : Nat} {w w' : World} {v : Value} {ps : List Pc} (h : PcsX B w v ps) (hb : Below w.heap.size w w') : PcsX B w' v ps := by
  obtain ⟨xs, h1, h2, h3⟩ := h
  exact ⟨xs, h1, h2.below hb, h3.below hb⟩
theorem PcsX.rd {B : Nat} {w : World} {v : Value} {ps : List Pc} (h : PcsX B w v ps) : PcsI w v ps := by
  obtain ⟨xs, h1, h2, h3⟩ := h
  exact ⟨xs, h1, h2.sl elPx.len, fun x hx => (h3 x hx).1⟩
theorem DatF.pushX {B : Nat} {w w2 w4 : World} {v v4 : Value} {xs : List (Pc × Sv)} {x : Pc × Sv} (hD : DatF B w2 v xs) (hO : LOut enPc 5 93 B w v xs) (hs : w.heap.size ≤ w2.heap.size) (hx : LSl en8 1 w2 (sv x.2) x.1.da) (hxl : ∀ r, (sv x.2).ownBlock = some r → w.heap.size ≤ r ∧ r < w2.heap.size)
    (hB : B ≤ w.heap.size) (hm : Mod (fun b => v.ownBlock = some b) w2 w4) (hv : v4.ownBlock = v.ownBlock ∨ ∃ r, v4.ownBlock = some r ∧ w2.heap.size ≤ r) : DatF B w4 v4 (xs ++ [x]) := by
  intro y hy
  have key : LSl en8 1 w2 (sv y.2) y.1.da ∧ ∀ r, (sv y.2).ownBlock = some r → B ≤ r ∧ r < w2.heap.size ∧ v.ownBlock ≠ some r := by
    rcases List.mem_append.1 hy with hy | hy
    · exact hD y hy
    · rw [List.mem_singleton.1 hy]
      refine ⟨hx, fun r hr => ⟨Nat.le_trans hB (hxl r hr).1, (hxl r hr).2, fun e => ?_⟩⟩
      have := hO.lt e
      have := (hxl r hr).1
      omega
  refine ⟨key.1.mod hm fun r hr => (key.2 r hr).2.2, fun r hr => ⟨(key.2 r hr).1, Nat.lt_of_lt_of_le (key.2 r hr).2.1 hm.size, ?_⟩⟩
  rcases hv with hv | ⟨r', hv, hr'⟩
  · rw [hv]; exact (key.2 r hr).2.2
  · rw [hv]
    intro e
    cases e
    have := (key.2 _ hr).2.1
    omega
theorem cut_more {bs : List Nat} {m : Nat} (h1 : 1 ≤ m) (hm : m ≤ cutN bs) : (m * 106 < bs.length ↔ m < cutN bs) := by
  unfold cutN at *
  omega
set_option maxRecDepth 20000 in
set_option maxHeartbeats 4000000 in
theorem ycut_main (w : World) (ep ct : Nat) (v : Value) (bs : List Nat) (h : LSl en8 1 w v bs) (hep : ep ≤ 16777215) (hct : ct ≤ 1099511627775) (hn : cutN bs - 1 ≤ 1099511627775 - ct) (hl : bs.length ≤ 8192) :
    Calls Tryz.prog 57 #[.int .u64 ep, .int .u64 ct, v] w fun e w' => Below w.heap.size w w' ∧ ∃ v', e = .returned (.tuple #[v', .int .i64 0]) ∧ PcsX w.heap.size w' v' (cutL ep ct bs) := by
  have hsl := h
  have hn1 := cutN_pos bs
  have hn2 := cutN_le bs
  unfold cutL
  have hmore := fun m => cut_more (bs := bs) (m := m)
  obtain ⟨n, hne⟩ : ∃ n, cutN bs = n := ⟨_, rfl⟩
  rw [hne] at hn hn1 hn2 ⊢
  simp only [hne] at hmore
  obtain ⟨ao, cap, rfl, h1, h2, h3⟩ := h
  unfold maxLen at h2
  have he1 : decide ((16777215 : Int) < ep) = false := decide_eq_false (by omega)
  have he2 : decide ((1099511627775 : Int) < ct) = false := decide_eq_false (by omega)
  have he3 : decide ((1099511627775 : Int) - ct < (n : Int) - 1) = false := decide_eq_false (by omega)
  have he4 : decide ((8192 : Int) < bs.length) = false := decide_eq_false (by omega)
  have hep' : (ep : Int) ≤ 16777215 := by omega
  have hct' : (ct : Int) ≤ 1099511627775 := by omega
  have hn1' : (1 : Int) ≤ n := by omega
  have hn2' : (n : Int) ≤ 9000 := by omega
  have hbl63 : (bs.length : Int) ≤ 8192 := by omega
  have HNE := Lib.hid hne
  have HMORE := Lib.hid hmore
  have HSL := Lib.hid hsl
  clear hne h3 hmore hsl
  go_enter Tryz.func57, Tryz.ntmps57
  go_wp2_with fail
  go_loopw [8] (fun mv wi => ∃ m : Nat, 1 ≤ m ∧ m ≤ n ∧ mv = .int .i64 m ∧ wi = w) (fun mv _ => n - (intOf mv).toNat)
  case atStart => exact ⟨1, Nat.le_refl _, hn1, rfl, rfl⟩
  case round =>
    obtain ⟨m, hm1, hmn, rfl, hw⟩ := hrel
    obtain rfl := hw.symm
    clear hw
    have hmi : (m : Int) ≤ 9000 := by omega
    have hiff := HMORE.out m hm1 hmn
    by_cases hlt : m < n
    · have hd : decide ((m : Int) * 106 < (bs.length : Int)) = true := decide_eq_true (by have := hiff.2 hlt; omega)
      have HIFF := Lib.hid hiff
      clear hiff
      go_wp2
      go_roundw
      case rel => exact ⟨m + 1, by omega, by omega, by go_num, trivial⟩
      case measure => simp [intOf]; omega
    · have hd : decide ((m : Int) * 106 < (bs.length : Int)) = false := decide_eq_false (by have := mt hiff.1 hlt; omega)
      obtain rfl : m = n := by omega
      clear hiff hmi
      go_wp2_with fail
      go_loopw [2, 9, 10, 11] (fun bv ov iv _ wi => ∃ k : Nat, k ≤ m ∧ iv = .int .i64 k ∧ LSl en8 1 w bv (bs.drop (106 * k)) ∧ Below w.heap.size w wi ∧ ∃ xs : List (Pc × Sv), xs.map (·.1) = (List.range k).map (pieceAt ep ct bs) ∧ LOut enPc 5 93 w.heap.size wi ov xs ∧ DatF w.heap.size wi ov xs) (fun _ _ iv _ _ => m - (intOf iv).toNat)
      case atStart => exact ⟨0, Nat.zero_le _, rfl, HSL.out, Below.refl _ _, [], rfl, LOut.nil (Nat.le_refl _), fun x hx => by cases hx⟩
      case round =>
        obtain ⟨k, hk, rfl, hbv, hb, xs, hxs, hO, hD⟩ := hrel
        by_cases hkn : k < m
        · have hdk : decide (k < m) = true := by simp [hkn]
          have hkn' : (k : Int) < (m : Int) := by omega
          have hlen : (bs.drop (106 * k)).length ≤ 8192 := by rw [List.length_drop]; omega
          have hpc : pieceAt ep ct bs k = ⟨ep, ct + k, decide (k = 0), decide (k + 1 = m), (bs.drop (106 * k)).take 106⟩ := by unfold pieceAt; rw [HNE.out]
          have hnx := cut_drop bs k
          have htk := cut_take (bs.drop (106 * k))
          have hxl : xs.length = k := by
            have := congrArg List.length hxs
            simpa using this
          generalize bs.drop (106 * k) = cs at *
          have hbv0 := hbv
          obtain ⟨a1, c1, rfl, h4, h5, -⟩ := hbv
          unfold maxLen at h5
          obtain ⟨j, hj⟩ : ∃ j, min cs.length 106 = j := ⟨_, rfl⟩
          rw [hj] at hnx htk
          have hjl : j ≤ cs.length := by omega
          have hrc := rcut_any wr _ cs (hbv0.below hb) 106 (by decide)
          rw [show ((106 : Nat) : Int) = 106 from rfl] at hrc
          obtain ⟨ad, had⟩ : ∃ ad, (if c1 = j then a1 else a1.map (·.add (j * 1))) = ad := ⟨_, rfl⟩
          obtain ⟨ln, hln⟩ : ∃ ln, cs.length - j = ln := ⟨_, rfl⟩
          obtain ⟨cn, hcn⟩ : ∃ cn, c1 - j = cn := ⟨_, rfl⟩
          have hdr := hbv0.drop2 (i := j) hjl had hln hcn
          rw [hnx] at hdr
          have hlt106 : (cs.take 106).length = j := by rw [List.length_take]; omega
          have hol : xs.length ≤ 1000000000 := by omega
          obtain ⟨f0, hf0⟩ : ∃ f, decide (k = 0) = f := ⟨_, rfl⟩
          obtain ⟨l0, hl0⟩ : ∃ f, decide (k + 1 = m) = f := ⟨_, rfl⟩
          rw [hf0, hl0] at hpc
          have hf1 : ((k : Int) == 0) = f0 := by rw [← hf0, Bool.eq_iff_iff]; simp
          have hf2 : ((k : Int) == (m : Int) - 1) = l0 := by rw [← hl0, Bool.eq_iff_iff]; simp; omega
          have hjl' : (j : Int) ≤ (cs.length : Int) := by omega
          have HPC := Lib.hid hpc
          have HXS := Lib.hid hxs
          have HB := Lib.hid hb
          have HD := Lib.hid hD
          have HO := Lib.hid hO
          have HDR := Lib.hid hdr
          have HAD := Lib.hid had
          have HLN := Lib.hid hln
          have HCN := Lib.hid hcn
          have HJ := Lib.hid hj
          have HJL := Lib.hid hlt106
          have hoS := hO.shape
          clear hpc hxs hb hD hO hdr had hln hcn hj hnx htk hxl hf0 hl0 hbv0 hlt106
          obtain ⟨a9, n9, c9, rfl⟩ := hoS
          go_upto_region 13 with (first
            | (go_at_call 46; refine hrc.mono ?_; rintro e w2 ⟨v2, rfl, h2c, hw⟩; obtain rfl := hw.symm; clear hw hrc)
            | fail)
          have hcp := rcopy_any wr _ _ h2c (by rw [HJL.out]; omega)
          obtain ⟨a2, c2, rfl, -, -, -⟩ := id h2c
          rw [HJL.out] at hcp ⊢
          clear h2c
          go_upto_region 14 with (first
            | (go_at_call 45; refine hcp.mono ?_; rintro e w3 ⟨v3, rfl, hO3, hb3⟩; obtain ⟨a3, n3, c3, rfl⟩ := LOut.shape hO3; have HO3 := Lib.hid hO3; have HB3 := Lib.hid hb3; clear hO3 hb3 hcp; go_frame)
            | ((with_reducible refine wpList_append1Y elPx (HO.out.below HB3.out) (⟨ep, ct + k, f0, l0, cs.take 106⟩, (a3, n3, c3)) hol ?_ ?_ ?_ ?_); rfl; rfl; rfl; (intro v4 w4 hO4 hm4 hv4; obtain ⟨a4, n4, c4, rfl⟩ := LOut.shape hO4; have HO4 := Lib.hid hO4; have HM4 := Lib.hid hm4; have HV4 := Lib.hid hv4; clear hO4 hm4 hv4); go_frame)
            | fail)
          go_wp2_with (first
            | ((with_reducible refine wpList_exec rfl (exec_sliceLo2 Tryz.underlying53 size8 hjl HAD.out HLN.out HCN.out ?_ ?_) ?_); rfl; rfl; go_frame)
            | fail)
          have hb2 : Below w.heap.size w w3 := HB.out.trans (HB3.out.mono HB.out.size)
          have hb4 : Below w.heap.size w w4 := hb2.trans (HM4.out.below (Nat.le_trans HB.out.size HB3.out.size) fun x hx e => by have := HO.out.lo x e; omega)
          go_roundw
          case rel =>
            refine ⟨k + 1, by omega, by go_num, HDR.out, hb4, xs ++ [(⟨ep, ct + k, f0, l0, cs.take 106⟩, (a3, n3, c3))], ?_, HO4.out, ?_⟩
            · rw [List.map_append, HXS.out, List.range_succ, List.map_append, List.map_singleton, List.map_singleton, HPC.out]
            · exact DatF.pushX (HD.out.below HB3.out) HO.out HB3.out.size (HO3.out.sl el8.len) (fun r hr => ⟨HO3.out.lo r hr, HO3.out.lt hr⟩) HB.out.size HM4.out HV4.out
          case measure => simp [intOf]; omega
        · obtain rfl : k = m := by omega
          have hdk : decide (k < k) = false := by simp
          have HXS := Lib.hid hxs
          have HB := Lib.hid hb
          have HD := Lib.hid hD
          have HO := Lib.hid hO
          obtain ⟨a2, n2, c2, rfl⟩ := hO.shape
          clear hxs hb hD hO hbv
          go_wp2
          go_ret2
          exact ⟨HB.out, _, rfl, xs, HXS.out, HO.out, HD.out⟩
end Go.Proofs.YtmakpbjknklpiaaGreat

/- The document's Of (a record's transaction), walked. -/
namespace Go.Proofs.YtmakpbjknklpiaaGreat
open Go.RowKit Go.Tn Go.Tn.Bt Go.Tn.Lp Go.Tn.Dk
theorem get8s_snoc (B : List Nat) (a e k : Nat) : get8s B a e (k + 1) = ((get8s B a e k).1 ++ [(getA B (get8s B a e k).2.1 (get8s B a e k).2.2 8).1], (getA B (get8s B a e k).2.1 (get8s B a e k).2.2 8).2) := rfl
theorem get8s_len (B : List Nat) (a e : Nat) : ∀ k, (get8s B a e k).1.length = k
  | 0 => rfl
  | k + 1 => by rw [get8s_snoc]; simp [get8s_len B a e k]
theorem getA_err0 (B : List Nat) (n : Nat) (h : 0 < (getA B 0 0 n).1) : (getA B 0 0 n).2.2 = 0 := by
  unfold getA at h ⊢
  split
  · rfl
  · rename_i h1
    split
    · rfl
    · rename_i h2
      rw [if_neg (by simp), if_neg h2] at h
      cases h
set_option maxRecDepth 20000 in
set_option maxHeartbeats 4000000 in
theorem zof_any (w : World) (v : Value) (B : List Nat) (h : LSl en8 1 w v B) (hlt : ∀ x ∈ B, x < 256) (hl : B.length ≤ 8192) (homes : Nat) (hh : homes ≤ 100000) :
    Calls Tryz.prog 42 #[v, .int .i64 homes] w fun e w' => Below w.heap.size w w' ∧ DecR w.heap.size w' (decB B homes) e := by
  have hof := rof_any w v B h hlt (by omega)
  obtain ⟨a0, n0, c0, rfl⟩ : ∃ a n c, v = .slice a n c := by
    obtain ⟨ao, cap, rfl, -⟩ := h
    exact ⟨_, _, _, rfl⟩
  have hh63 : (homes : Int) ≤ 100000 := by omega
  have HL := Lib.hid hl
  clear h hlt hl
  go_enter Tryz.func42, Tryz.ntmps42
  go_upto_region 2 with (first
    | (go_at_call 77; refine hof.mono ?_; rintro e w1 ⟨v1, rfl, hO1, hb1⟩; obtain ⟨a1, n1, c1, rfl⟩ := LOut.shape hO1; have HO1 := Lib.hid hO1; have HB1 := Lib.hid hb1; clear hO1 hb1 hof; go_frame)
    | fail)
  obtain ⟨rb, hrb⟩ : ∃ rb, w1.heap.size = rb := ⟨_, rfl⟩
  have hR : RBt (w1.alloc (.cells #[.slice a1 n1 c1, .int .i64 0] 134)) rb B 0 0 := by
    have hba : Below w1.heap.size w1 (w1.alloc (.cells #[.slice a1 n1 c1, .int .i64 0] 134)) := (Below.refl _ _).alloc (Nat.le_refl _) _
    refine ⟨⟨a1, n1, c1, ?_, ?_, fun k hk => ?_⟩, by have := HL.out; omega, by decide, Nat.zero_le _⟩
    · rw [← hrb]
      exact heap_alloc_at
    · rw [List.drop_zero]
      exact (HO1.out.sl el8.len).below hba
    · have := HO1.out.lt hk
      omega
  have hb2 : Below w.heap.size w (w1.alloc (.cells #[.slice a1 n1 c1, .int .i64 0] 134)) := HB1.out.alloc HB1.out.size _
  have hrw : w.heap.size ≤ rb := by rw [← hrb]; exact HB1.out.size
  rw [hrb]
  clear hrb HO1 HB1
  generalize w1.alloc (.cells #[.slice a1 n1 c1, .int .i64 0] 134) = w2 at *
  have hg8 := rbget_any hR 8 (by decide)
  rw [show ((8 : Nat) : Int) = 8 from rfl] at hg8
  obtain ⟨n, hn⟩ : ∃ n, (getA B 0 0 8).1 = n := ⟨_, rfl⟩
  have hn256 : n < 256 := by rw [← hn]; exact getA_lt B 0 0 8
  have hE0 : 0 < n → (getA B 0 0 8).2.2 = 0 := fun h => getA_err0 B 8 (by rw [hn]; exact h)
  have hdec : decB B homes = match decGo B (getA B 0 0 8).2.1 (getA B 0 0 8).2.2 n with
    | none => none
    | some (l, a, e) => if endR B a e = 0 ∧ transB l homes = true then some l else none := by
    unfold decB
    rw [hn]
    cases decGo B (getA B 0 0 8).2.1 (getA B 0 0 8).2.2 n <;> rfl
  obtain ⟨A0, hA0⟩ : ∃ x, (getA B 0 0 8).2.1 = x := ⟨_, rfl⟩
  obtain ⟨E0, hE0e⟩ : ∃ x, (getA B 0 0 8).2.2 = x := ⟨_, rfl⟩
  rw [hn, hA0, hE0e] at hg8
  rw [hE0e] at hE0
  rw [hA0, hE0e] at hdec
  have hbad0 : E0 ≠ 0 → decB B homes = none := fun h => by
    have hn0 : n = 0 := by
      rcases Nat.eq_zero_or_pos n with h0 | h0
      · exact h0
      · exact absurd (hE0 h0) h
    rw [hdec, hn0]
    simp only [decGo]
    unfold endR
    rw [if_pos h, if_neg (fun e => h e.1)]
  have hn63 : (n : Int) < 256 := by omega
  have HDEC := Lib.hid hdec
  have HB2 := Lib.hid hb2
  clear hdec hb2 hn hA0 hE0e hR
  go_upto_region 3 with (first
    | (go_at_call 78; refine hg8.mono ?_; rintro e w3 ⟨rfl, hR3, hm3⟩; have HR3 := Lib.hid hR3; have HM3 := Lib.hid hm3; clear hR3 hm3 hg8; go_frame)
    | fail)
  have hb3 : Below w.heap.size w w3 := HB2.out.trans (HM3.out.below HB2.out.size fun x hx e => by omega)
  have HB3 := Lib.hid hb3
  have HE0 := Lib.hid hE0
  have HBAD := Lib.hid hbad0
  have hRlt := HR3.out.lt
  clear hb3 hE0 hbad0
  go_wp2_with fail
  go_loopw [8, 9, 10, 11, 12] (fun ov iv _ _ _ wi => ∃ (k a er : Nat) (l : List Pt) (xs : List (Pt × Sv)), k ≤ n ∧ iv = .int .i64 k ∧ RBt wi rb B a er ∧ (er = 0 → decGo B A0 E0 k = some (l, a, 0)) ∧ (er ≠ 0 → decB B homes = none) ∧ l.length = k ∧ (∀ q ∈ l, ∀ x ∈ q.2, x < 256) ∧ xs.map (·.1) = l ∧ LOut enPt 2 96 (rb + 1) wi ov xs ∧ DatG (rb + 1) wi ov xs ∧ Below w.heap.size w wi) (fun _ iv _ _ _ _ => n - (intOf iv).toNat)
  case atStart =>
    refine ⟨0, A0, E0, [], [], Nat.zero_le _, rfl, HR3.out, fun e => ?_, HBAD.out, rfl, (fun q hq => by cases hq), rfl, LOut.nil hRlt, (fun x hx => by cases hx), HB3.out⟩
    rw [e]
    rfl
  case round =>
    obtain ⟨k, a, er, l, xs, hk, rfl, hR, hok, hbad, hll, hlq, hxs, hO, hD, hb⟩ := hrel
    obtain ⟨wo, hwo⟩ : ∃ wo, wo = wr := ⟨_, rfl⟩
    subst hwo
    obtain ⟨o1, o2, o3, rfl⟩ := hO.shape
    have hxl : xs.length = k := by rw [← hll, ← hxs]; simp
    have hRx := hR.ex
    obtain ⟨ra, rn, rc, hRh, -, -⟩ := hRx
    have q1 := cell_of (o := 1) hRh rfl
    clear hRh
    have hokn : k ≤ n := hk
    have HOK := Lib.hid hok
    have HBD := Lib.hid hbad
    have HLQ := Lib.hid hlq
    have HXS := Lib.hid hxs
    have HO := Lib.hid hO
    have HD := Lib.hid hD
    have HB := Lib.hid hb
    have HLL := Lib.hid hll
    have her := hR.err
    have hale := hR.le
    have HR := Lib.hid hR
    clear hok hbad hlq hxs hO hD hb hll hR
    by_cases hgo : k < n ∧ er = 0
    · obtain ⟨hkn, rfl⟩ := hgo
      have hdk : decide (k < n) = true := by simp [hkn]
      simp only [Int.natCast_zero] at q1
      have hg12 := rbget_any HR.out 12 (by decide)
      rw [show ((12 : Nat) : Int) = 12 from rfl] at hg12
      have hx12 : (getA B a 0 12).1 < 4096 := Nat.lt_of_lt_of_le (getA_lt B a 0 12) (by decide)
      have hdn : decGo B A0 E0 (k + 1) = if (getPut B a 0).2.2 ≠ 0 then none else some (l ++ [(getPut B a 0).1], (getPut B a 0).2) := by simp only [decGo, HOK.out rfl]
      have hgp : getPut B a 0 = (((((getA B a 0 12).1 : Nat) : Int), (get8s B (getA B a 0 12).2.1 (getA B a 0 12).2.2 128).1), (get8s B (getA B a 0 12).2.1 (getA B a 0 12).2.2 128).2) := rfl
      rw [hgp] at hdn
      obtain ⟨x12, hx12e⟩ : ∃ x, (getA B a 0 12).1 = x := ⟨_, rfl⟩
      obtain ⟨a12, ha12e⟩ : ∃ x, (getA B a 0 12).2.1 = x := ⟨_, rfl⟩
      obtain ⟨e12, he12e⟩ : ∃ x, (getA B a 0 12).2.2 = x := ⟨_, rfl⟩
      rw [hx12e] at hx12
      rw [hx12e, ha12e, he12e] at hg12 hdn
      have hx63 : (x12 : Int) < 4096 := by omega
      have HDN := Lib.hid hdn
      have HG12 := Lib.hid hg12
      clear hdn hgp hx12e ha12e he12e hg12
      go_upto_region 8 with (first
        | (go_at_call 78; refine HG12.out.mono ?_; rintro e w5 ⟨rfl, hR5, hm5⟩; have HR5 := Lib.hid hR5; have HM5 := Lib.hid hm5; clear hR5 hm5; go_frame)
        | ((with_reducible refine wpList_storeA_new (aggPt _ _) rfl (onePt _ _ _ _) ?_ ?_ ?_); rfl; rfl; go_frame)
        | fail)
      clear q1
      obtain ⟨bp, hbp⟩ : ∃ bp, w5.heap.size = bp := ⟨_, rfl⟩
      have hrbp : rb < bp := by rw [← hbp]; exact HR5.out.lt
      have hwbp : w.heap.size ≤ bp := by omega
      have hB5 : Below w.heap.size w w5 := HB.out.trans (HM5.out.below HB.out.size fun x hx e => by omega)
      have hal : Below w5.heap.size w5 (w5.alloc (.cells #[.int .i64 ((x12 : Nat) : Int), .slice none 0 0] 96)) := (Below.refl _ _).alloc (Nat.le_refl _) _
      have hB7 : Below w.heap.size w (w5.alloc (.cells #[.int .i64 ((x12 : Nat) : Int), .slice none 0 0] 96)) := hB5.trans (hal.mono hB5.size)
      have hR7 := HR5.out.below hal
      have hO5 : LOut enPt 2 96 (rb + 1) w5 (.slice o1 o2 o3) xs := HO.out.kept HM5.out.size fun r hr => HM5.out.block r (HO.out.lt hr) fun e => by have := HO.out.lo r hr; omega
      have hD5 : DatG (rb + 1) w5 (.slice o1 o2 o3) xs := HD.out.mod HM5.out fun b h1 _ e => by omega
      have hP7 : (w5.alloc (.cells #[.int .i64 ((x12 : Nat) : Int), .slice none 0 0] 96)).heap[bp]? = some (.cells #[.int .i64 ((x12 : Nat) : Int), .slice none 0 0] 96 (0, 0)) := by
        rw [← hbp]
        exact heap_alloc_at
      have hz7 : (w5.alloc (.cells #[.int .i64 ((x12 : Nat) : Int), .slice none 0 0] 96)).heap.size = bp + 1 := by simp [hbp]
      have hO7 := hO5.below hal
      have hD7 := hD5.below hal
      have hol : ∀ r, (Value.slice o1 o2 o3).ownBlock = some r → r < bp := fun r hr => by rw [← hbp]; exact hO5.lt hr
      have hdl : ∀ x ∈ xs, ∀ r, (sv x.2).ownBlock = some r → r < bp := fun x hx r hr => by rw [← hbp]; exact ((hD5 x hx).2 r hr).2.1
      rw [hbp]
      have HR7 := Lib.hid hR7
      have HB7 := Lib.hid hB7
      have HO7 := Lib.hid hO7
      have HD7 := Lib.hid hD7
      have HP7 := Lib.hid hP7
      have HZ7 := Lib.hid hz7
      have HOL := Lib.hid hol
      have HDL := Lib.hid hdl
      clear hR7 hB7 hO7 hD7 hP7 hz7 hol hdl hbp hB5 hal hO5 hD5 HR5 HM5 HR HO HD HB
      generalize w5.alloc (.cells #[.int .i64 ((x12 : Nat) : Int), .slice none 0 0] 96) = w7 at *
      go_wp2_with fail
      go_loopw [11, 12] (fun jv _ wi => ∃ (j : Nat) (da : Option Addr) (dn dc : Nat), j ≤ 128 ∧ jv = .int .i64 j ∧ RBt wi rb B (get8s B a12 e12 j).2.1 (get8s B a12 e12 j).2.2 ∧ wi.heap[bp]? = some (.cells #[.int .i64 ((x12 : Nat) : Int), .slice da dn dc] 96 (0, 0)) ∧ LOut en8 1 5 (bp + 1) wi (.slice da dn dc) (get8s B a12 e12 j).1 ∧ (∀ x ∈ (get8s B a12 e12 j).1, x < 256) ∧ Mod (fun b => b = rb ∨ bp ≤ b) w7 wi) (fun jv _ _ => 128 - (intOf jv).toNat)
      case atStart => exact ⟨0, none, 0, 0, Nat.zero_le _, rfl, HR7.out, HP7.out, LOut.nil (by have := HZ7.out; omega), (fun x hx => by cases hx), Mod.refl _ _⟩
      case round =>
        obtain ⟨j, da, dn, dc, hj, rfl, hRj, hPj, hLj, hlj, hMj⟩ := hrel
        have p0 := cell_of (o := 0) hPj rfl
        have p1 := cell_of (o := 1) hPj rfl
        have hsn := get8s_snoc B a12 e12 j
        have hglen := get8s_len B a12 e12 j
        by_cases hjl : j < 128
        · have hdj : decide ((j : Int) < 128) = true := decide_eq_true (by omega)
          have hj63 : (j : Int) < 128 := by omega
          obtain ⟨L, hLe⟩ : ∃ x, (get8s B a12 e12 j).1 = x := ⟨_, rfl⟩
          obtain ⟨a', ha'⟩ : ∃ x, (get8s B a12 e12 j).2.1 = x := ⟨_, rfl⟩
          obtain ⟨e', he'⟩ : ∃ x, (get8s B a12 e12 j).2.2 = x := ⟨_, rfl⟩
          rw [hLe] at hsn hglen hLj hlj
          rw [ha', he'] at hsn hRj
          have hg := rbget_any hRj 8 (by decide)
          rw [show ((8 : Nat) : Int) = 8 from rfl] at hg
          have hy := getA_lt B a' e' 8
          obtain ⟨y, hye⟩ : ∃ x, (getA B a' e' 8).1 = x := ⟨_, rfl⟩
          obtain ⟨a'', ha''⟩ : ∃ x, (getA B a' e' 8).2.1 = x := ⟨_, rfl⟩
          obtain ⟨e'', he''⟩ : ∃ x, (getA B a' e' 8).2.2 = x := ⟨_, rfl⟩
          have hgg : (getA B a' e' 8).2 = (a'', e'') := by rw [← ha'', ← he'']
          rw [hgg] at hsn
          rw [hye] at hy hg hsn
          rw [ha'', he''] at hg
          have hy256 : y < 256 := hy
          have hyi : (y : Int) < 256 := by omega
          have hyw : IntKind.u8.wrap ((y : Nat) : Int) = ((y : Nat) : Int) := IntWalk.u8_in _ (by omega)
          have hml : L.length ≤ 1000000000 := by omega
          have HSN := Lib.hid hsn
          have HPJ := Lib.hid hPj
          have HLJ := Lib.hid hLj
          have HLL' := Lib.hid hlj
          have HMJ := Lib.hid hMj
          have hbpl := lt_of_block hPj
          clear hsn hLe ha' he' hye ha'' he'' hgg hPj hLj hlj hMj hRj hglen hy
          go_upto_region 12 with fail
          clear p0
          go_wp2_with (first
            | (go_at_call 78; refine hg.mono ?_; rintro e w8 ⟨rfl, hR8, hm8⟩; have HR8 := Lib.hid hR8; have HM8 := Lib.hid hm8; clear hR8 hm8 hg; go_frame)
            | ((with_reducible refine wpList_append1Y el8 (HLJ.out.kept HM8.out.size fun r hr => HM8.out.block r (HLJ.out.lt hr) fun e => (by have := HLJ.out.lo r hr; omega)) y hml ?_ ?_ ?_ ?_); rfl; rfl; rfl; (intro v9 w9 hO9 hm9 hv9; obtain ⟨a9, n9, c9, rfl⟩ := LOut.shape hO9; have HH9 := Lib.hid (hm9.heap (HM8.out.heap HPJ.out (fun e => (by omega))) (fun e => (by have := HLJ.out.lo bp e; omega))); have d1 := cell_of (o := 1) HH9.out rfl; have g1 := free_of (o := 1) HH9.out; have HO9 := Lib.hid hO9; have HM9 := Lib.hid hm9; have HV9 := Lib.hid hv9; clear hO9 hm9 hv9 p1); go_frame)
            | fail)
          have hh := heap_setCell_at (o := 1) (v := .slice a9 n9 c9) HH9.out
          have hmA : Mod (fun b => b = bp) w9 (w9.setCell ⟨bp, 1, none⟩ (.slice a9 n9 c9)) := (Mod.refl _ _).setCell _ _ fun _ => rfl
          have HHH := Lib.hid hh
          have HMA := Lib.hid hmA
          clear hh hmA
          go_roundw
          case rel =>
            have hlo := HLJ.out.lo
            have hlo9 := HO9.out.lo
            refine ⟨j + 1, a9, n9, c9, by omega, by go_num, ?_, HHH.out, ?_, ?_, ?_⟩
            · rw [HSN.out]
              exact (HR8.out.mod HM9.out fun b hb => by have := hlo b hb; omega).mod HMA.out fun b hb => by omega
            · rw [HSN.out]
              exact HO9.out.kept HMA.out.size fun r hr => HMA.out.block r (HO9.out.lt hr) fun e => by have := hlo9 r hr; omega
            · rw [HSN.out]
              intro x hx
              rcases List.mem_append.1 hx with hx | hx
              · exact HLL'.out x hx
              · rw [List.mem_singleton.1 hx]
                exact hy256
            · refine ((HMJ.out.trans (T := fun b => b = rb ∨ bp ≤ b) HM8.out (fun _ h => h) fun x _ h => .inl h).trans (T := fun b => b = rb ∨ bp ≤ b) HM9.out (fun _ h => h) fun x _ h => .inr (by have := hlo x h; omega)).trans HMA.out (fun _ h => h) fun x _ h => .inr (by omega)
          case measure => simp [intOf]; omega
        · obtain rfl : j = 128 := by omega
          have hdj : decide ((128 : Int) < 128) = false := by decide
          have hlt128 : (get8s B a12 e12 128).1.length = 128 := hglen
          obtain ⟨L, hLe⟩ : ∃ x, (get8s B a12 e12 128).1 = x := ⟨_, rfl⟩
          obtain ⟨a', ha'⟩ : ∃ x, (get8s B a12 e12 128).2.1 = x := ⟨_, rfl⟩
          obtain ⟨e', he'⟩ : ∃ x, (get8s B a12 e12 128).2.2 = x := ⟨_, rfl⟩
          rw [hLe] at hLj hlj
          rw [ha', he'] at hRj
          have hdn := HDN.out
          have hpair : (get8s B a12 e12 128).2 = (a', e') := by rw [← ha', ← he']
          rw [hLe, hpair] at hdn
          clear hpair
          have hxle : xs.length ≤ 1000000000 := by omega
          have hOj : LOut enPt 2 96 (rb + 1) wr (.slice o1 o2 o3) xs := HO7.out.kept hMj.size fun r hr => hMj.block r (HO7.out.lt hr) fun e => by have := HO7.out.lo r hr; have := HOL.out r hr; omega
          have hDj : DatG (rb + 1) wr (.slice o1 o2 o3) xs := fun x hx => ⟨(HD7.out x hx).1.mod hMj fun r hr e => (by have := ((HD7.out x hx).2 r hr).1; have := HDL.out x hx r hr; omega), fun r hr => ⟨((HD7.out x hx).2 r hr).1, Nat.lt_of_lt_of_le ((HD7.out x hx).2 r hr).2.1 hMj.size, ((HD7.out x hx).2 r hr).2.2⟩⟩
          have hbpl := lt_of_block hPj
          have HDN' := Lib.hid hdn
          have HPJ := Lib.hid hPj
          have HLJ := Lib.hid hLj
          have HLL' := Lib.hid hlj
          have HMJ := Lib.hid hMj
          have HRJ := Lib.hid hRj
          have HOJ := Lib.hid hOj
          have HDJ := Lib.hid hDj
          have HEE := Lib.hid he'
          have HBJ : Hid (Below w.heap.size w wr) := Lib.hid (HB7.out.trans (hMj.below HB7.out.size fun x hx e => by rcases e with e | e <;> omega))
          clear hsn hLe ha' hdn hPj hLj hlj hMj hRj hOj hDj hglen hlt128 p0 p1 he'
          go_wp2_with (first
            | ((with_reducible refine wpList_loadA (aggPt (x12 : Nat) (.slice da dn dc)) (lies_of HPJ.out) ?_ ?_); rfl; go_frame)
            | ((with_reducible refine wpList_append1Y elPt HOJ.out (((x12 : Nat), L), (da, dn, dc)) hxle ?_ ?_ ?_ ?_); rfl; rfl; rfl; (intro v9 w9 hO9 hm9 hv9; obtain ⟨a9, n9, c9, rfl⟩ := LOut.shape hO9; have HO9 := Lib.hid hO9; have HM9 := Lib.hid hm9; have HV9 := Lib.hid hv9; clear hO9 hm9 hv9); go_frame)
            | fail)
          go_roundw
          case rel =>
            have hlo := HOJ.out.lo
            have hdlo := HLJ.out.lo
            have hxs' := HXS.out
            have hoo : ∀ r, (Value.slice da dn dc).ownBlock = some r → ¬ (Value.slice o1 o2 o3).ownBlock = some r := fun r h1 h2 => by have := hdlo r h1; have := HOL.out r h2; omega
            refine ⟨k + 1, a', e', l ++ [((((x12 : Nat) : Int), L) : Pt)], xs ++ [((((((x12 : Nat) : Int), L) : Pt), ((da, dn, dc) : Sv)))], by omega, by go_num, HRJ.out.mod HM9.out fun b hb => (by have := hlo b hb; omega), fun e => ?_, fun e => ?_, by simp [HLL.out], fun q hq => ?_, by rw [List.map_append, hxs']; rfl, HO9.out, DatG.push (x := ((((((x12 : Nat) : Int), L) : Pt), ((da, dn, dc) : Sv)))) HDJ.out HOJ.out (HLJ.out.sl el8.len) (fun r hr => ⟨by have := hdlo r hr; omega, HLJ.out.lt hr, hoo r hr⟩) HM9.out HV9.out, HBJ.out.trans (HM9.out.below HBJ.out.size fun x hx h => by have := hlo x h; omega)⟩
            · rw [HDN'.out, if_neg (fun h => h e)]
              rw [e]
            · have h1 : decGo B A0 E0 (k + 1) = none := by rw [HDN'.out]; exact if_pos e
              have h2 := decGo_none h1 (n - (k + 1))
              rw [show k + 1 + (n - (k + 1)) = n by omega] at h2
              rw [HDEC.out, h2]
            · rcases List.mem_append.1 hq with hq | hq
              · exact HLQ.out q hq
              · rw [List.mem_singleton.1 hq]
                exact HLL'.out
          case measure => simp [intOf]; omega
    · have HPTS : Hid (PtsI wo (.slice o1 o2 o3) l) := Lib.hid ⟨xs, HXS.out, HO.out.sl elPt.len, fun x hx => (HD.out x hx).1⟩
      have HOUT : Hid (PtsO w.heap.size wo (.slice o1 o2 o3) l) := Lib.hid ⟨xs, HXS.out, HO.out.mono (by omega), fun x hx => ⟨(HD.out x hx).1, fun r hr => ⟨by have := ((HD.out x hx).2 r hr).1; omega, ((HD.out x hx).2 r hr).2⟩⟩⟩
      have hend := rbend_any HR.out
      by_cases her0 : er = 0
      · obtain rfl : k = n := by omega
        subst her0
        have hdk : decide (k < k) = false := by simp
        obtain ⟨E, hEe⟩ : ∃ E, endR B a 0 = E := ⟨_, rfl⟩
        rw [hEe] at hend
        have hdecB : decB B homes = if E = 0 ∧ transB l homes = true then some l else none := by
          rw [HDEC.out, HOK.out rfl]
          simp only [hEe]
        have HDB := Lib.hid hdecB
        clear hdecB hEe hgo
        by_cases hE : E = 0
        · subst hE
          have his := ris_any wo _ l HPTS.out homes hh
          obtain ⟨T, hT⟩ : ∃ T, transB l homes = T := ⟨_, rfl⟩
          rw [hT] at his
          have HT := Lib.hid hT
          clear hT
          go_wp2_with (first
            | (go_at_call 79; refine hend.mono ?_; rintro e w5 ⟨rfl, hw⟩; obtain rfl := hw.symm; clear hw hend; go_frame)
            | (go_at_call 56; refine his.mono ?_; rintro e w6 ⟨rfl, hb6⟩; have HB6 := Lib.hid hb6; clear hb6 his; go_frame)
            | fail)
          go_ret2
          refine ⟨HB.out.trans (HB6.out.mono HB.out.size), ?_⟩
          rw [HDB.out, HT.out]
          cases T with
          | true =>
            rw [if_pos (by simp)]
            obtain ⟨xs', e1, e2, e3⟩ := HOUT.out
            exact ⟨_, rfl, xs', e1, e2.below HB6.out, e3.below HB6.out⟩
          | false =>
            rw [if_neg (by simp)]
            exact ⟨_, _, _, rfl⟩
        · have hE0 : ((E : Int) == 0) = false := by rw [beq_eq_false_iff_ne]; omega
          have HEN := Lib.hid hE
          clear hE
          go_wp2_with (first
            | (go_at_call 79; refine hend.mono ?_; rintro e w5 ⟨rfl, hw⟩; obtain rfl := hw.symm; clear hw hend; go_frame)
            | fail)
          go_ret2
          refine ⟨HB.out, ?_⟩
          rw [HDB.out, if_neg (fun h => HEN.out h.1)]
          exact ⟨_, _, _, rfl⟩
      · have hen : endR B a er = er := by unfold endR; rw [if_pos her0]
        rw [hen] at hend
        have he0 : ((er : Int) == 0) = false := by rw [beq_eq_false_iff_ne]; omega
        have HDB := Lib.hid (HBD.out her0)
        clear hen her0 hgo
        by_cases hkn : k < n
        · have hdk : decide (k < n) = true := by simp [hkn]
          go_wp2_with (first
            | (go_at_call 79; refine hend.mono ?_; rintro e w5 ⟨rfl, hw⟩; obtain rfl := hw.symm; clear hw hend; go_frame)
            | fail)
          go_ret2
          refine ⟨HB.out, ?_⟩
          rw [HDB.out]
          exact ⟨_, _, _, rfl⟩
        · have hdk : decide (k < n) = false := by simp [hkn]
          go_wp2_with (first
            | (go_at_call 79; refine hend.mono ?_; rintro e w5 ⟨rfl, hw⟩; obtain rfl := hw.symm; clear hw hend; go_frame)
            | fail)
          go_ret2
          refine ⟨HB.out, ?_⟩
          rw [HDB.out]
          exact ⟨_, _, _, rfl⟩
end Go.Proofs.YtmakpbjknklpiaaGreat
