/-
  DERIVED: THE SHELF's CONTRACTS AT THIS DUMP, IN PLAIN WORDS (tools/lay-plain.mjs out of 'TryzShelf.lean', which tools/lay-shelf.mjs wrote): THE SAME DECLARATIONS UNDER THE SAME NAMES: 'import', 'namespace', 'open', 'def', 'theorem' AND NOTHING ELSE: no command of the shelf's: FOR A HAND-IN. Each laying: the table of numbers ('.._ren') and one theorem, a field a fact of the dump's own or the kernel's comparison; each contract: ONE APPLICATION.
-/
import Derived.Test.YtbkblhoagfonjaaGreatMgK23
import Derived.Shelf.Sort.Plain
import Derived.Shelf.Slices.In.SortNone
import Derived.Shelf.Bytes.Small
import Derived.Shelf.SlIterI.Nil
import Derived.Ground.GgzProg
import Derived.Test.YtbkblhoagfonjaaGreatProg
/- The document's Bytes: walked. -/
namespace Go.Tn.Bt
/-- The bytes that bits make, the last one as far as it is. -/
def rawB (l : List Bool) : List Nat := pack (l.take (8 * (l.length / 8))) ++ (if l.length % 8 = 0 then [] else [natOf (l.drop (8 * (l.length / 8)))])
theorem rawB_eq {a t : List Bool} {q : Nat} (ha : a.length = 8 * q) (h1 : 1 ≤ t.length) (h2 : t.length ≤ 8) : rawB (a ++ t) = pack a ++ [natOf t] := by
  unfold rawB
  rw [List.length_append, ha]
  by_cases h8 : t.length = 8
  · rw [if_pos (by omega), show (8 * q + t.length) / 8 = q + 1 by omega, List.take_of_length_le (by rw [List.length_append]; omega), pack_append t ha, pack_small h1 h2, List.append_nil]
    unfold byteOf
    rw [h8]
    simp
  · rw [if_neg (by omega), show (8 * q + t.length) / 8 = q by omega, List.take_append_of_le_length (by omega), List.take_of_length_le (by omega), List.drop_append_of_le_length (by omega), List.drop_eq_nil_of_le (by omega), List.nil_append]
theorem rawB_whole {a : List Bool} {q : Nat} (ha : a.length = 8 * q) : rawB a = pack a := by
  unfold rawB
  rw [ha, if_pos (by omega), List.take_of_length_le (by omega), List.append_nil]
theorem rawB_len (l : List Bool) : (rawB l).length = (l.length + 7) / 8 := by
  unfold rawB
  rw [List.length_append, pack_len, List.length_take]
  split
  · simp; omega
  · simp; omega
/-- One bit more. -/
theorem rawB_snoc (l : List Bool) (b : Bool) : ∃ (A : List Nat) (x : Nat), (if l.length % 8 = 0 then rawB l ++ [0] else rawB l) = A ++ [x] ∧ x * 2 + b.toNat < 256 ∧ rawB (l ++ [b]) = A ++ [x * 2 + b.toNat] := by
  obtain ⟨a, t, rfl, ha, ht⟩ := split8 l
  have hmod := Nat.mod_lt (a ++ t).length (show 0 < 8 by decide)
  generalize (a ++ t).length / 8 = q at ha
  rw [← ht] at hmod ⊢
  have hb : b.toNat ≤ 1 := by cases b <;> decide
  rw [List.append_assoc]
  by_cases h0 : t.length = 0
  · have : t = [] := List.eq_nil_of_length_eq_zero h0
    subst this
    rw [if_pos h0, List.append_nil, List.nil_append, rawB_whole ha, rawB_eq ha (by simp) (by simp)]
    exact ⟨pack a, 0, rfl, by omega, by simp [natOf]⟩
  · rw [if_neg h0, rawB_eq ha (by omega) (by omega), rawB_eq ha (by simp) (by simp; omega)]
    have hlt := natOf_lt t
    have h128 : natOf t < 128 := Nat.lt_of_lt_of_le hlt (by
      have := Nat.pow_le_pow_right (n := 2) (by decide) (show t.length ≤ 7 by omega)
      simpa using this)
    refine ⟨pack a, natOf t, rfl, by omega, ?_⟩
    rw [natOf_append]
    simp [natOf]
/-- The last byte filled. -/
theorem pack_raw (l : List Bool) (h : l.length % 8 ≠ 0) : ∃ (A : List Nat) (c : Nat), rawB l = A ++ [c] ∧ c < 2 ^ (l.length % 8) ∧ pack l = A ++ [c * 2 ^ (8 - l.length % 8)] := by
  obtain ⟨a, t, rfl, ha, ht⟩ := split8 l
  have hmod := Nat.mod_lt (a ++ t).length (show 0 < 8 by decide)
  generalize (a ++ t).length / 8 = q at ha
  rw [← ht] at hmod h ⊢
  rw [rawB_eq ha (by omega) (by omega), pack_append t ha, pack_small (l := t) (by omega) (by omega)]
  exact ⟨pack a, natOf t, rfl, natOf_lt t, rfl⟩
end Go.Tn.Bt
namespace Go.Proofs.YtbkblhoagfonjaaGreat
open Go.RowKit Go.Tn Go.Tn.Bt Go.Tn.Lp Go.Tn.Dk
theorem b01_get {l : List Bool} {k : Nat} {b : Bool} (h : l[k]? = some b) : (b01 l)[k]? = some b.toNat := by
  unfold b01
  rw [List.getElem?_map, h]
  rfl
theorem set_last (A : List Nat) (x y : Nat) : (A ++ [x]).set A.length y = A ++ [y] := by
  rw [List.set_append_right _ _ (Nat.le_refl _), Nat.sub_self]
  rfl
set_option maxRecDepth 20000 in
set_option maxHeartbeats 4000000 in
theorem rbytes_any (w : World) (v : Value) (l : List Bool) (h : LSl en8 1 w v (b01 l)) (hl : l.length ≤ 80000) : Calls Tryz.prog 89 #[v] w
    fun e w' => ∃ v', e = .returned v' ∧ LOut en8 1 5 w.heap.size w' v' (pack l) ∧ Below w.heap.size w w' := by
  obtain ⟨ao, cap, rfl, h1, h2, h3⟩ := h
  rw [b01_len] at h1 h3 ⊢
  unfold maxLen at h2
  have hl63 : (l.length : Int) ≤ 80000 := by omega
  go_enter Tryz.func89, Tryz.ntmps89
  go_wp2
  go_loopw [3, 4, 5] (fun ov iv _ wi => ∃ k : Nat, k ≤ l.length ∧ iv = .int .i64 k ∧ LOut en8 1 5 w.heap.size wi ov (rawB (l.take k)) ∧ Below w.heap.size w wi) (fun _ iv _ _ => l.length - (intOf iv).toNat)
  case atStart => exact ⟨0, Nat.zero_le _, rfl, (by rw [List.take_zero, show rawB [] = [] from rfl]; exact LOut.nil (Nat.le_refl _)), Below.refl _ _⟩
  case round =>
    obtain ⟨k, hk, rfl, hO, hb⟩ := hrel
    have hk63 : (k : Int) ≤ 80000 := by omega
    by_cases hlt : k < l.length
    · have hd1 : decide (k < l.length) = true := by simp [hlt]
      have hx : l[k]? = some l[k] := List.getElem?_eq_getElem hlt
      generalize l[k] = bt at hx
      have hsn := take_snoc hx
      obtain ⟨A, x, hA, hx2, hnew⟩ := rawB_snoc (l.take k) bt
      rw [← hsn] at hnew
      obtain ⟨b, off, rfl, hbl, hcells⟩ := h3 (by omega)
      have hxc := b01_get hx
      have hlk : (l.take k).length = k := by rw [List.length_take]; omega
      rw [hlk] at hA
      have hAl : (A ++ [x]).length ≤ 10002 := by
        rw [← hA]
        split
        · rw [List.length_append, rawB_len, hlk]; simp; omega
        · rw [rawB_len, hlk]; omega
      have hbt1 : bt.toNat ≤ 1 := by cases bt <;> decide
      generalize bt.toNat = c at *
      obtain ⟨a3, n3, c3, rfl⟩ := LOut.shape hO
      have hm8 : (k : Int) % 8 = ((k % 8 : Nat) : Int) := by omega
      have hblo : b < w.heap.size := hbl
      have hx255 : (x : Int) * 2 + c ≤ 255 := by omega
      have hx0 : (0 : Int) ≤ (x : Int) := by omega
      have hA63 : (A.length : Int) ≤ 10002 := by simp at hAl; omega
      have HN := Lib.hid hnew
      have HB := Lib.hid hb
      -- the rest, wherever the bytes lie
      have key : ∀ (W : World) (r n cc : Nat) , LOut en8 1 5 w.heap.size W (.slice (some ⟨r, 0, none⟩) n cc) (A ++ [x]) → Below w.heap.size w W → n = A.length + 1 →
          LOut en8 1 5 w.heap.size (W.drew.setCell ⟨r, A.length, none⟩ (.int .u8 ((x * 2 + c : Nat) : Int))) (.slice (some ⟨r, 0, none⟩) n cc) (rawB (l.take (k + 1))) ∧ Below w.heap.size w (W.drew.setCell ⟨r, A.length, none⟩ (.int .u8 ((x * 2 + c : Nat) : Int))) ∧
          W.drew.cell? ⟨r, A.length, none⟩ = some (.int .u8 (x : Nat)) ∧ W.drew.cell? ⟨b, off + k, none⟩ = some (.int .u8 (c : Nat)) ∧ W.drew.frozen? ⟨r, A.length, none⟩ = false := by
        intro W r n cc hOW hbW hn
        have hi : (A ++ [x])[A.length]? = some x := by simp
        have h := LOut.set el8.len (hOW.below (Below.refl _ W).drew) (i := A.length) (j := 0) (y := x * 2 + c) (u := .int .u8 ((x * 2 + c : Nat) : Int)) hi (by decide) rfl
        rw [set_last, ← HN.out] at h
        simp only [Nat.mul_one, Nat.add_zero, Nat.zero_add] at h
        have hr := hOW.lo r rfl
        refine ⟨h, hbW.drew.setCell hr _, ?_, ?_, hOW.frozen _⟩
        · have := (hOW.lies el8.len hi) 0 (by simp)
          simpa using this
        · have := (hcells k _ hxc).below' hbW hblo 0 (by simp)
          simpa using this
      have HK := Lib.hid key
      have HW1 : Hid (IntKind.u8.wrap ((x : Int) * 2) = (x : Int) * 2) := Lib.hid (IntWalk.u8_in _ (by omega))
      have HW2 : Hid (IntKind.u8.wrap ((x : Int) * 2 + c) = ((x * 2 + c : Nat) : Int)) := Lib.hid (by rw [IntWalk.u8_in _ (by omega)]; omega)
      have hAA : (A.length : Int) < (A.length : Int) + 1 := by omega
      have hkl : (k : Int) < (l.length : Int) := by omega
      clear key hnew hb hcells hx hsn hxc
      by_cases h0 : k % 8 = 0
      · rw [if_pos h0] at hA
        have hd2 : ((k : Int) % 8 == 0) = true := by rw [hm8, h0]; rfl
        have hml : (rawB (l.take k)).length ≤ 100000 := by rw [rawB_len, hlk]; omega
        have HO := Lib.hid hO
        have HA := Lib.hid hA
        clear hO hA hlk h0 hm8
        go_wp2_with (first
          | ((with_reducible refine wpList_append1X el8 HO.out 0 (by have := hml; omega) ?_ ?_ ?_ ?_); rfl; rfl; rfl; (intro v7 w7 hO7 hb7; rw [HA.out] at hO7; obtain ⟨r7, c7, rfl, -⟩ := LOut.last (m := A.length) hO7 (by simp) (List.getElem?_concat_length); have HO7 := Lib.hid hO7; have HB7 := Lib.hid (HB.out.trans hb7); clear hO7 hb7); go_frame)
          | fail)
        have hk7 := HK.out w7 r7 (A.length + 1) c7 HO7.out HB7.out rfl
        obtain ⟨z1, z2, hS1, hS2, hf⟩ := hk7
        have Z1 := Lib.hid z1
        have Z2 := Lib.hid z2
        have hS := And.intro hS1 hS2
        clear z1 z2 hS1 hS2
        refine wp_region_x (fun w' => w'.cell? ⟨r7, A.length, none⟩ = some (.int .u8 (x : Nat)) ∧ w'.cell? ⟨b, off + k, none⟩ = some (.int .u8 (c : Nat))) [(0, 1), (1, 1), (2, 1), (3, 1), (4, 1), (5, 0), (6, 1), (7, 1), (8, 1), (9, 1), (10, 0), (11, 1), (12, 1), (13, 3)] (by kernel_rfl) (by kernel_rfl) (by intro d v c a w h; cases d <;> exact h) ?_
        iterate 5 (refine x_take rfl (fun K hK => ?_); go_simp; refine hK _ ?_; clear hK K)
        refine x_read rfl hS (fun w' h => exec_load1 ⟨⟨_, Tryz.underlying5, rfl⟩⟩ rfl h.1) ?_
        iterate 4 (refine x_take rfl (fun K hK => ?_); go_simp; refine hK _ ?_; clear hK K)
        refine x_read rfl hS (fun w' h => exec_load1 ⟨⟨_, Tryz.underlying5, rfl⟩⟩ rfl h.2) ?_
        iterate 2 (refine x_take rfl (fun K hK => ?_); go_simp; refine hK _ ?_; clear hK K)
        rw [HW1.out, HW2.out]
        refine x_skip rfl (exec_store1 (v := .int .u8 ((x * 2 + c : Nat) : Int)) ⟨⟨_, Tryz.underlying5, rfl⟩⟩ (by kernel_rfl) rfl rfl rfl hS.1 hf) ?_
        refine x_nil ?_
        clear hS hf
        go_wp2
        go_roundw
        case rel => exact ⟨k + 1, by omega, by go_num, Z1.out, Z2.out⟩
        case measure => simp [intOf]; omega
      · rw [if_neg h0] at hA
        have hd2 : ((k : Int) % 8 == 0) = false := by rw [hm8]; exact beq_eq_false_iff_ne.2 (by omega)
        rw [hA] at hO
        obtain ⟨r7, c7, hv7, -⟩ := LOut.last (m := A.length) hO (by simp) (List.getElem?_concat_length)
        obtain ⟨rfl, rfl, rfl⟩ : a3 = some ⟨r7, 0, none⟩ ∧ n3 = A.length + 1 ∧ c3 = c7 := by simpa using hv7
        have hk7 := HK.out wr r7 (A.length + 1) c3 hO HB.out rfl
        obtain ⟨z1, z2, hS1, hS2, hf⟩ := hk7
        have Z1 := Lib.hid z1
        have Z2 := Lib.hid z2
        have hS := And.intro hS1 hS2
        clear z1 z2 hS1 hS2 hO hA hv7 hlk h0 hm8
        go_wp2_with fail
        refine wp_region_x (fun w' => w'.cell? ⟨r7, A.length, none⟩ = some (.int .u8 (x : Nat)) ∧ w'.cell? ⟨b, off + k, none⟩ = some (.int .u8 (c : Nat))) [(0, 1), (1, 1), (2, 1), (3, 1), (4, 1), (5, 0), (6, 1), (7, 1), (8, 1), (9, 1), (10, 0), (11, 1), (12, 1), (13, 3)] (by kernel_rfl) (by kernel_rfl) (by intro d v c a w h; cases d <;> exact h) ?_
        iterate 5 (refine x_take rfl (fun K hK => ?_); go_simp; refine hK _ ?_; clear hK K)
        refine x_read rfl hS (fun w' h => exec_load1 ⟨⟨_, Tryz.underlying5, rfl⟩⟩ rfl h.1) ?_
        iterate 4 (refine x_take rfl (fun K hK => ?_); go_simp; refine hK _ ?_; clear hK K)
        refine x_read rfl hS (fun w' h => exec_load1 ⟨⟨_, Tryz.underlying5, rfl⟩⟩ rfl h.2) ?_
        iterate 2 (refine x_take rfl (fun K hK => ?_); go_simp; refine hK _ ?_; clear hK K)
        rw [HW1.out, HW2.out]
        refine x_skip rfl (exec_store1 (v := .int .u8 ((x * 2 + c : Nat) : Int)) ⟨⟨_, Tryz.underlying5, rfl⟩⟩ (by kernel_rfl) rfl rfl rfl hS.1 hf) ?_
        refine x_nil ?_
        clear hS hf
        go_wp2
        go_roundw
        case rel => exact ⟨k + 1, by omega, by go_num, Z1.out, Z2.out⟩
        case measure => simp [intOf]; omega
    · obtain rfl : k = l.length := by omega
      have hd1 : decide (l.length < l.length) = false := by simp
      rw [List.take_length] at hO
      have hm8 : (l.length : Int) % 8 = ((l.length % 8 : Nat) : Int) := by omega
      have hlt8 := Nat.mod_lt l.length (show 0 < 8 by decide)
      by_cases h0 : l.length % 8 = 0
      · have hd2 : ((l.length : Int) % 8 != 0) = false := by rw [hm8, h0]; rfl
        have hr : rawB l = pack l := rawB_whole (q := l.length / 8) (by omega)
        rw [hr] at hO
        obtain ⟨a3, n3, c3, rfl⟩ := LOut.shape hO
        have HO := Lib.hid hO
        have HB := Lib.hid hb
        clear hO hb hr hm8 h0
        go_wp2
        go_loop [6] (fun iv => iv = .int .i64 l.length) (fun _ => 0)
        case atStart => rfl
        case round =>
          subst hrel
          go_wp2
          go_ret
          exact ⟨_, rfl, HO.out, HB.out⟩
      · obtain ⟨A, c, hA, hc, hP⟩ := pack_raw l h0
        generalize hr : l.length % 8 = r at *
        rw [hA] at hO
        have hAl : A.length ≤ 10001 := by
          have := congrArg List.length hA
          rw [rawB_len, List.length_append, List.length_singleton] at this
          omega
        obtain ⟨r7, c7, rfl, -⟩ := LOut.last (m := A.length) hO (by simp) (List.getElem?_concat_length)
        have HO := Lib.hid hO
        have HB := Lib.hid hb
        have HP := Lib.hid hP
        have HC := Lib.hid hc
        have HR := Lib.hid hr
        have HM := Lib.hid hm8
        have hAA : (A.length : Int) < (A.length : Int) + 1 := by omega
        have hA63 : (A.length : Int) ≤ 10001 := by omega
        clear hO hb hA hP hc hr hm8
        go_wp2
        go_loopw [6, 7] (fun iv _ wi => ∃ j : Nat, j ≤ 8 - r ∧ iv = .int .i64 ((l.length + j : Nat) : Int) ∧ LOut en8 1 5 w.heap.size wi (.slice (some ⟨r7, 0, none⟩) (A.length + 1) c7) (A ++ [c * 2 ^ j]) ∧ Below w.heap.size w wi) (fun iv _ _ => l.length + 8 - (intOf iv).toNat)
        case atStart => exact ⟨0, by omega, by simp, by simpa using HO.out, HB.out⟩
        case round =>
          obtain ⟨j, hj, rfl, hO, hb⟩ := hrel
          have hmj : ((l.length + j : Nat) : Int) % 8 = ((r + j : Nat) : Int) % 8 := by have := HR.out; omega
          have hi63 : ((l.length + j : Nat) : Int) ≤ 80010 := by omega
          by_cases hj8 : j < 8 - r
          · have hd2 : (((l.length + j : Nat) : Int) % 8 != 0) = true := by rw [hmj, bne_iff_ne]; omega
            have hlt : c * 2 ^ j < 128 := by
              have h1 : c * 2 ^ j < 2 ^ r * 2 ^ j := (Nat.mul_lt_mul_right (Nat.two_pow_pos _)).2 HC.out
              rw [← Nat.pow_add] at h1
              have h2 := Nat.pow_le_pow_right (n := 2) (by decide) (show r + j ≤ 7 by omega)
              omega
            have hnx : c * 2 ^ (j + 1) = c * 2 ^ j * 2 := by rw [Nat.pow_succ, Nat.mul_assoc]
            generalize c * 2 ^ j = y at *
            have hi : (A ++ [y])[A.length]? = some y := by simp
            have h := LOut.set el8.len hO (i := A.length) (j := 0) (y := y * 2) (u := .int .u8 ((y : Int) * 2)) hi (by decide) (by simp)
            rw [set_last] at h
            simp only [Nat.mul_one, Nat.add_zero, Nat.zero_add] at h
            have hb2 := hb.setCell (p := ⟨r7, A.length, none⟩) (hO.lo r7 rfl) (.int .u8 ((y : Int) * 2))
            have q0 := (hO.lies el8.len hi) 0 (by simp)
            simp only [Nat.mul_one, Nat.add_zero] at q0
            have q0 : wr.cell? ⟨r7, A.length, none⟩ = some (.int .u8 (y : Nat)) := q0
            have hf := hO.frozen A.length
            have hy255 : (y : Int) * 2 ≤ 255 := by omega
            have hy0 : (0 : Int) ≤ (y : Int) := by omega
            obtain ⟨ij, hij⟩ : ∃ ij, l.length + j = ij := ⟨_, rfl⟩
            rw [hij] at hmj hi63 hd2 ⊢
            have HH := Lib.hid h
            have HB2 := Lib.hid hb2
            have HNX := Lib.hid hnx
            have HIJ := Lib.hid hij
            clear hO hb hi h hb2 hnx hij
            go_wp2
            have hij := HIJ.out
            refine ⟨⟨j + 1, by omega, ?_, ?_, HB2.out⟩, by simp [intOf]; omega⟩
            · congr 1
              omega
            · rw [HNX.out]
              exact HH.out
          · obtain rfl : j = 8 - r := by omega
            have hd2 : (((l.length + (8 - r) : Nat) : Int) % 8 != 0) = false := by rw [hmj, bne_eq_false_iff_eq]; omega
            rw [← HP.out] at hO
            have HO2 := Lib.hid hO
            have HB2 := Lib.hid hb
            clear hO hb hmj
            generalize l.length + (8 - r) = ij at *
            go_wp2
            go_ret
            exact ⟨_, rfl, HO2.out, HB2.out⟩
end Go.Proofs.YtbkblhoagfonjaaGreat

/- The document's Record, Is; the disk's Waits: walked. -/
namespace Go.Proofs.YtbkblhoagfonjaaGreat
open Go.RowKit Go.Tn Go.Tn.Bt Go.Tn.Lp Go.Tn.Dk
set_option maxRecDepth 20000 in
set_option maxHeartbeats 4000000 in
theorem rrecord_any (w : World) (v : Value) (ps : List Pt) (hp : PtsI w v ps) (hf : ∀ p ∈ ps, fitP p) (hn : ps.length ≤ 24) : Calls Tryz.prog 58 #[v] w
    fun e w' => ∃ v', e = .returned v' ∧ LOut en8 1 5 w.heap.size w' v' (recB ps) ∧ Below w.heap.size w w' := by
  obtain ⟨xs, hxs, hL, hD⟩ := hp
  have hxl : xs.length = ps.length := by rw [← hxs]; simp
  obtain ⟨ao, cap, rfl, h1, h2, h3⟩ := hL
  rw [hxl] at h1 h3 ⊢
  unfold maxLen at h2
  have HXS := Lib.hid hxs
  have HD := Lib.hid hD
  have HXL := Lib.hid hxl
  have HF := Lib.hid hf
  clear hxs hD hxl hf
  have hl63 : (ps.length : Int) ≤ 24 := by omega
  have hl64 : (ps.length : Int) % 18446744073709551616 = (ps.length : Int) := by omega
  have hbt := rbits_any w ps.length 8 (by omega) (by omega)
  rw [show ((8 : Nat) : Int) = 8 from rfl] at hbt
  go_enter Tryz.func58, Tryz.ntmps58
  go_wp2_with fail
  refine hbt.mono ?_
  rintro e w1 ⟨v1, rfl, hO1, hb1⟩
  obtain ⟨a1, n1, c1, rfl⟩ := LOut.shape hO1
  have HO1 := Lib.hid hO1
  have HB1 := Lib.hid hb1
  clear hO1 hb1 hbt hl64
  go_wp2
  go_loopw [3, 4] (fun ov iv wi => ∃ k : Nat, k ≤ ps.length ∧ iv = .int .i64 k ∧ LOut en8 1 5 w.heap.size wi ov (b01 (bitsN ps.length 8 ++ (ps.take k).flatMap putBits)) ∧ Below w.heap.size w wi) (fun _ iv _ => ps.length - (intOf iv).toNat)
  case atStart => exact ⟨0, Nat.zero_le _, rfl, by simpa using HO1.out, HB1.out⟩
  case round =>
    obtain ⟨k, hk, rfl, hO, hb⟩ := hrel
    by_cases hlt : k < ps.length
    · have hd1 : decide (k < ps.length) = true := by simp [hlt]
      obtain ⟨x, hx⟩ : ∃ x, xs[k]? = some x := ⟨_, List.getElem?_eq_getElem (by rw [HXL.out]; exact hlt)⟩
      obtain ⟨b, off, rfl, hbl, hcells⟩ := h3 (by omega)
      have hlies := (hcells k x hx).below' hb hbl
      have hpx : ps[k]? = some x.1 := by rw [← HXS.out, List.getElem?_map, hx]; rfl
      have hdx := HD.out x (List.mem_of_getElem? hx)
      have hfx := HF.out _ (List.mem_of_getElem? hpx)
      have hlc := fun (W : World) (hW : Below w.heap.size w W) => (hcells k x hx).below' hW hbl
      obtain ⟨⟨at_, dat⟩, ⟨a4, n4, c4⟩⟩ := x
      obtain ⟨f1, f2, f3, f4⟩ := hfx
      simp only at f1 f2 f3 f4
      obtain ⟨at_, rfl⟩ := Int.eq_ofNat_of_zero_le f1
      have q0 : wr.cell? ⟨b, off + k * 2, none⟩ = some (.int .i64 (at_ : Nat)) := hlies 0 (by simp [enPt])
      have hsn : b01 (bitsN ps.length 8 ++ (ps.take (k + 1)).flatMap putBits) = b01 (bitsN ps.length 8 ++ (ps.take k).flatMap putBits) ++ b01 (bitsN at_ 12) ++ b01 (unpack dat) := by
        rw [take_snoc hpx, List.flatMap_append, b01_append, b01_append, b01_append]
        simp only [List.flatMap_cons, List.flatMap_nil, List.append_nil, putBits, b01_append, Int.toNat_natCast, List.append_assoc]
        rfl
      have hll : (b01 (bitsN ps.length 8 ++ (ps.take k).flatMap putBits)).length = 8 + 1036 * k := by
        rw [b01_len, List.length_append, bitsN_len, puts_len _ fun p hp => (HF.out p (List.mem_of_mem_take hp)).2.2.1, List.length_take, Nat.min_eq_left (by omega)]
      obtain ⟨ls, hls⟩ : ∃ ls, b01 (bitsN ps.length 8 ++ (ps.take k).flatMap putBits) = ls := ⟨_, rfl⟩
      rw [hls] at hO hsn hll
      have hbt := rbits_any wr at_ 12 (by omega) (by omega)
      rw [show ((12 : Nat) : Int) = 12 from rfl] at hbt
      have ha63 : (at_ : Int) ≤ 4095 := by omega
      have ha64 : (at_ : Int) % 18446744073709551616 = (at_ : Int) := by omega
      have hll1 : ls.length + (b01 (bitsN at_ 12)).length ≤ 100000 := by rw [hll, b01_len, bitsN_len]; omega
      have hll2 : (ls ++ b01 (bitsN at_ 12)).length + (b01 (unpack dat)).length ≤ 100000 := by rw [List.length_append, hll, b01_len, b01_len, bitsN_len, unpack_len, f3]; omega
      have HSN := Lib.hid hsn
      have HLC := Lib.hid hlc
      have HDX := Lib.hid hdx
      have HF3 := Lib.hid f3
      have HF4 := Lib.hid f4
      obtain ⟨a3, n3, c3, rfl⟩ := LOut.shape hO
      have HO := Lib.hid hO
      have HB := Lib.hid hb
      clear hO hb hx hcells hlies hpx hdx hlc hsn hls hll f1 f2 f3 f4
      go_wp2_with fail
      refine hbt.mono ?_
      rintro e w2 ⟨v2, rfl, hO2, hb2⟩
      obtain ⟨a2, n2, c2, rfl⟩ := LOut.shape hO2
      have HO2 := Lib.hid hO2
      have HB2 := Lib.hid hb2
      clear hO2 hb2 hbt q0 ha64
      go_upto_region 6 with (first
        | ((with_reducible refine wpList_appendN el8 (HO.out.below HB2.out) (HO2.out.sl el8.len) hll1 ?_ ?_ ?_); rfl; rfl; (intro v5 w5 hO5 hg5 hl5; obtain ⟨a5, n5, c5, rfl⟩ := LOut.shape hO5; have HO5 := Lib.hid hO5; have HG5 := Lib.hid hg5; clear hO5 hg5 hl5); go_frame)
        | fail)
      have hB5 : Below w.heap.size w w5 := (HB.out.trans (HB2.out.mono HB.out.size)).grown HG5.out (Nat.le_trans HB.out.size HB2.out.size) HO.out.lo
      have q1 : w5.cell? ⟨b, off + k * 2 + 1, none⟩ = some (.slice a4 n4 c4) := (HLC.out _ hB5) 1 (by simp [enPt])
      have hd5 : LSl en8 1 w5 (.slice a4 n4 c4) dat := LSl.below HDX.out hB5
      have hof := rof_any w5 _ dat hd5 HF4.out (by rw [HF3.out]; omega)
      have HB5 := Lib.hid hB5
      clear hB5 hd5
      go_wp2_with fail
      refine hof.mono ?_
      rintro e w6 ⟨v6, rfl, hO6, hb6⟩
      obtain ⟨a6, n6, c6, rfl⟩ := LOut.shape hO6
      have HO6 := Lib.hid hO6
      have HB6 := Lib.hid hb6
      clear hO6 hb6 hof q1
      go_wp2_with (first
        | ((with_reducible refine wpList_appendN el8 (HO5.out.below HB6.out) (HO6.out.sl el8.len) hll2 ?_ ?_ ?_); rfl; rfl; (intro v7 w7 hO7 hg7 hl7; have HO7 := Lib.hid hO7; have HG7 := Lib.hid hg7; clear hO7 hg7 hl7); go_frame)
        | fail)
      go_roundw
      case rel =>
        refine ⟨k + 1, by omega, by go_num, by rw [HSN.out]; exact HO7.out, ?_⟩
        exact (HB5.out.trans (HB6.out.mono HB5.out.size)).grown HG7.out (Nat.le_trans HB5.out.size HB6.out.size) HO5.out.lo
      case measure => simp [intOf]; omega
    · obtain rfl : k = ps.length := by omega
      have hd1 : decide (ps.length < ps.length) = false := by simp
      rw [List.take_length] at hO
      have hle : (bitsN ps.length 8 ++ ps.flatMap putBits).length ≤ 80000 := by
        rw [List.length_append, bitsN_len, puts_len _ fun p hp => (HF.out p hp).2.2.1]
        omega
      have hby := rbytes_any wr _ _ (hO.sl el8.len) hle
      obtain ⟨a3, n3, c3, rfl⟩ := LOut.shape hO
      have HB := Lib.hid hb
      clear hO hb
      go_wp2_with fail
      refine hby.mono ?_
      rintro e w2 ⟨v2, rfl, hO2, hb2⟩
      obtain ⟨a2, n2, c2, rfl⟩ := LOut.shape hO2
      have HO2 := Lib.hid hO2
      have HB2 := Lib.hid hb2
      clear hO2 hb2 hby
      go_wp2
      go_ret
      exact ⟨_, rfl, HO2.out.mono HB.out.size, HB.out.trans (HB2.out.mono HB.out.size)⟩
theorem trans_len {ps : List Pt} {homes : Nat} (h : ¬ (1 ≤ ps.length ∧ ps.length ≤ 24)) : transB ps homes = false := by
  cases hb : transB ps homes with
  | false => rfl
  | true =>
    have := (transB_iff ps homes).1 hb
    exact absurd ⟨this.1, this.2.1⟩ h
theorem mem_take_fst {ps : List Pt} {k j : Nat} {q : Pt} (hj : j < k) (hq : ps[j]? = some q) : q.1 ∈ (ps.take k).map (·.1) :=
  List.mem_map.2 ⟨q, List.mem_of_getElem? (i := j) (by rw [List.getElem?_take, if_pos hj]; exact hq), rfl⟩
set_option maxRecDepth 20000 in
set_option maxHeartbeats 4000000 in
theorem ris_any (w : World) (v : Value) (ps : List Pt) (hp : PtsI w v ps) (homes : Nat) (hh : homes ≤ 100000) : Calls Tryz.prog 56 #[v, .int .i64 homes] w
    fun e w' => e = .returned (.bool (transB ps homes)) ∧ Below w.heap.size w w' := by
  obtain ⟨xs, hxs, hL, hD⟩ := hp
  have hxl : xs.length = ps.length := by rw [← hxs]; simp
  obtain ⟨ao, cap, rfl, h1, h2, h3⟩ := hL
  rw [hxl] at h1 h3 ⊢
  unfold maxLen at h2
  have HXS := Lib.hid hxs
  have HD := Lib.hid hD
  have HXL := Lib.hid hxl
  clear hxs hD hxl
  have hl64 : (ps.length : Int) ≤ 9223372036854775807 := by omega
  by_cases hlo : ps.length < 1
  · have hz : decide ((ps.length : Int) < 1) = true := by simp; omega
    rw [trans_len (by omega)]
    go_enter Tryz.func56, Tryz.ntmps56
    go_wp2
    go_ret
    exact ⟨rfl, Below.refl _ _⟩
  by_cases hhi : 24 < ps.length
  · have hz : decide ((ps.length : Int) < 1) = false := by simp; omega
    have hz2 : decide ((24 : Int) < (ps.length : Int)) = true := by simp; omega
    rw [trans_len (by omega)]
    go_enter Tryz.func56, Tryz.ntmps56
    go_wp2
    go_ret
    exact ⟨rfl, Below.refl _ _⟩
  have hz : decide ((ps.length : Int) < 1) = false := by simp; omega
  have hz2 : decide ((24 : Int) < (ps.length : Int)) = false := by simp; omega
  have hl63 : (ps.length : Int) ≤ 24 := by omega
  have hh63 : (homes : Int) ≤ 100000 := by omega
  go_enter Tryz.func56, Tryz.ntmps56
  go_wp2
  go_loopw [5] (fun iv wi => ∃ k : Nat, k ≤ ps.length ∧ iv = .int .i64 k ∧ (∀ p ∈ ps.take k, goodP p homes) ∧ ((ps.take k).map (·.1)).Nodup ∧ Below w.heap.size w wi) (fun iv _ => ps.length - (intOf iv).toNat)
  case atStart => exact ⟨0, Nat.zero_le _, rfl, (fun p hp => by cases hp), List.nodup_nil, Below.refl _ _⟩
  case round =>
    obtain ⟨k, hk, rfl, hg, hnd, hb⟩ := hrel
    by_cases hlt : k < ps.length
    · have hd1 : decide (k < ps.length) = true := by simp [hlt]
      obtain ⟨x, hx⟩ : ∃ x, xs[k]? = some x := ⟨_, List.getElem?_eq_getElem (by rw [HXL.out]; exact hlt)⟩
      obtain ⟨b, off, rfl, hbl, hcells⟩ := h3 (by omega)
      have hlies := (hcells k x hx).below' hb hbl
      have hpx : ps[k]? = some x.1 := by rw [← HXS.out, List.getElem?_map, hx]; rfl
      obtain ⟨da, dc, hdv, -, hd2, -⟩ := HD.out x (List.mem_of_getElem? hx)
      obtain ⟨⟨at_, dat⟩, ⟨a1, n1, c1⟩⟩ := x
      obtain ⟨rfl, rfl, rfl⟩ : a1 = da ∧ n1 = dat.length ∧ c1 = dc := by simpa [sv] using hdv
      simp only at hd2 hpx
      unfold maxLen at hd2
      have q0 : wr.cell? ⟨b, off + k * 2, none⟩ = some (.int .i64 at_) := hlies 0 (by simp [enPt])
      have q1 : wr.cell? ⟨b, off + k * 2 + 1, none⟩ = some (.slice a1 dat.length c1) := hlies 1 (by simp [enPt, sv])
      have hts := take_snoc hpx
      have HG := Lib.hid hg
      have HND := Lib.hid hnd
      have HB := Lib.hid hb
      have HPX := Lib.hid hpx
      have HTS := Lib.hid hts
      have HCE := Lib.hid hcells
      have hbr : b < wr.heap.size := Nat.lt_of_lt_of_le hbl hb.size
      clear hg hnd hb hpx hts hcells hlies hx hdv hd2
      by_cases hA : at_ < 0
      · have hA' : decide (at_ < 0) = true := by simp [hA]
        have HBAD := Lib.hid (trans_bad (homes := homes) HPX.out fun e => absurd e.1 (by simp only; omega))
        go_wp2
        go_ret
        rw [HBAD.out]
        exact ⟨rfl, HB.out⟩
      have hA' : decide (at_ < 0) = false := by simp; omega
      by_cases hH : (homes : Int) ≤ at_
      · have hH' : decide ((homes : Int) ≤ at_) = true := by simp [hH]
        have HBAD := Lib.hid (trans_bad (homes := homes) HPX.out fun e => absurd e.2.1 (by simp only; omega))
        go_wp2
        go_ret
        rw [HBAD.out]
        exact ⟨rfl, HB.out⟩
      have hH' : decide ((homes : Int) ≤ at_) = false := by simp; omega
      by_cases hC : dat.length = 128
      rotate_left
      · have hC' : ((dat.length : Int) != 128) = true := by rw [bne_iff_ne]; omega
        have HBAD := Lib.hid (trans_bad (homes := homes) HPX.out fun e => absurd e.2.2 hC)
        go_wp2
        go_ret
        rw [HBAD.out]
        exact ⟨rfl, HB.out⟩
      have hC' : ((dat.length : Int) != 128) = false := by rw [bne_eq_false_iff_eq]; omega
      have HC := Lib.hid hC
      have HLT := Lib.hid hlt
      clear hC
      go_wp2
      go_loopw [6] (fun jv wj => ∃ j : Nat, j ≤ k ∧ jv = .int .i64 j ∧ (∀ i q, i < j → ps[i]? = some q → q.1 ≠ at_) ∧ Below w.heap.size w wj) (fun jv _ => k - (intOf jv).toNat)
      case atStart => exact ⟨0, Nat.zero_le _, rfl, (fun i q hi => absurd hi (Nat.not_lt_zero _)), HB.out⟩
      case round =>
        obtain ⟨j, hj, rfl, hno, hbj⟩ := hrel
        by_cases hjk : j < k
        · have hdj : decide (j < k) = true := by simp [hjk]
          obtain ⟨y, hy⟩ : ∃ y, xs[j]? = some y := ⟨_, List.getElem?_eq_getElem (by rw [HXL.out]; omega)⟩
          have hpy : ps[j]? = some y.1 := by rw [← HXS.out, List.getElem?_map, hy]; rfl
          have hly := (HCE.out j y hy).below' hbj hbl
          obtain ⟨x, hx⟩ : ∃ x, xs[k]? = some x := ⟨_, List.getElem?_eq_getElem (by rw [HXL.out]; exact HLT.out)⟩
          have hlx := (HCE.out k x hx).below' hbj hbl
          have hxa : x.1.1 = at_ := by
            have h1 : ps[k]? = some x.1 := by rw [← HXS.out, List.getElem?_map, hx]; rfl
            rw [HPX.out] at h1
            rw [← Option.some.inj h1]
          have p0 : wr.drew.cell? ⟨b, off + j * 2, none⟩ = some (.int .i64 y.1.1) := hly 0 (by simp [enPt])
          have p1 : wr.drew.cell? ⟨b, off + k * 2, none⟩ = some (.int .i64 at_) := by rw [← hxa]; exact hlx 0 (by simp [enPt])
          generalize hya : y.1.1 = ya at *
          have hS := And.intro p0 p1
          have hjl : (j : Int) < (ps.length : Int) := by omega
          have hkl : (k : Int) < (ps.length : Int) := by have := HLT.out; omega
          have HPY := Lib.hid hpy
          have HYA := Lib.hid hya
          have HBJ := Lib.hid hbj
          have HNO := Lib.hid hno
          clear p0 p1 hy hly hx hlx hxa hpy hya hbj hno q0 q1
          by_cases heq : ya = at_
          · subst heq
            have hee : (ya == ya) = true := by simp
            have HBAD := Lib.hid (trans_dup (homes := homes) HPX.out (by simp only; rw [← HYA.out]; exact mem_take_fst hjk HPY.out))
            go_wp2_with fail
            refine wp_region_x (fun w' => w'.cell? ⟨b, off + j * 2, none⟩ = some (.int .i64 ya) ∧ w'.cell? ⟨b, off + k * 2, none⟩ = some (.int .i64 ya)) [(0, 1), (1, 1), (2, 1), (3, 1), (4, 0), (5, 1), (6, 1), (7, 1), (8, 1), (9, 0), (10, 1)] (by kernel_rfl) (by kernel_rfl) (by intro d v c a w h; cases d <;> exact h) ?_
            iterate 4 (refine x_take rfl (fun K hK => ?_); go_simp; refine hK _ ?_; clear hK K)
            refine x_read rfl hS (fun w' h => exec_load1 ⟨⟨_, Tryz.underlying3, rfl⟩⟩ rfl h.1) ?_
            iterate 4 (refine x_take rfl (fun K hK => ?_); go_simp; refine hK _ ?_; clear hK K)
            refine x_read rfl hS (fun w' h => exec_load1 ⟨⟨_, Tryz.underlying3, rfl⟩⟩ rfl h.2) ?_
            iterate 1 (refine x_take rfl (fun K hK => ?_); go_simp; refine hK _ ?_; clear hK K)
            refine x_nil ?_
            clear hS
            go_wp2
            go_ret
            rw [HBAD.out]
            exact ⟨rfl, HBJ.out.drew⟩
          · have hee : (ya == at_) = false := beq_eq_false_iff_ne.2 heq
            go_wp2_with fail
            refine wp_region_x (fun w' => w'.cell? ⟨b, off + j * 2, none⟩ = some (.int .i64 ya) ∧ w'.cell? ⟨b, off + k * 2, none⟩ = some (.int .i64 at_)) [(0, 1), (1, 1), (2, 1), (3, 1), (4, 0), (5, 1), (6, 1), (7, 1), (8, 1), (9, 0), (10, 1)] (by kernel_rfl) (by kernel_rfl) (by intro d v c a w h; cases d <;> exact h) ?_
            iterate 4 (refine x_take rfl (fun K hK => ?_); go_simp; refine hK _ ?_; clear hK K)
            refine x_read rfl hS (fun w' h => exec_load1 ⟨⟨_, Tryz.underlying3, rfl⟩⟩ rfl h.1) ?_
            iterate 4 (refine x_take rfl (fun K hK => ?_); go_simp; refine hK _ ?_; clear hK K)
            refine x_read rfl hS (fun w' h => exec_load1 ⟨⟨_, Tryz.underlying3, rfl⟩⟩ rfl h.2) ?_
            iterate 1 (refine x_take rfl (fun K hK => ?_); go_simp; refine hK _ ?_; clear hK K)
            refine x_nil ?_
            clear hS
            have HEQ := Lib.hid heq
            clear heq
            go_wp2
            go_roundw
            case rel =>
              refine ⟨j + 1, by omega, by go_num, fun i q hi hq => ?_, HBJ.out.drew⟩
              by_cases hij : i = j
              · subst hij
                rw [HPY.out] at hq
                rw [← Option.some.inj hq, HYA.out]
                exact HEQ.out
              · exact HNO.out i q (by omega) hq
            case measure => simp [intOf]; omega
        · obtain rfl : j = k := by omega
          have hdj : decide (j < j) = false := by simp
          have HNO := Lib.hid hno
          have HBJ := Lib.hid hbj
          clear hno hbj q0 q1
          go_wp2
          go_roundw
          case rel =>
            refine ⟨j + 1, by omega, by go_num, ?_, ?_, HBJ.out⟩
            · rw [HTS.out]
              intro p hp
              rcases List.mem_append.1 hp with hp | hp
              · exact HG.out p hp
              · rw [List.mem_singleton.1 hp]
                exact ⟨by simp only; omega, by simp only; omega, HC.out⟩
            · rw [HTS.out, List.map_append]
              refine List.pairwise_append.2 ⟨HND.out, by simp, fun a ha c hc e => ?_⟩
              simp at hc
              subst hc
              obtain ⟨q, hq, hqa⟩ := List.mem_map.1 ha
              obtain ⟨i, hi⟩ := List.mem_iff_getElem?.1 hq
              rw [List.getElem?_take] at hi
              split at hi
              · rename_i hij
                exact HNO.out i q hij hi (by rw [hqa, e])
              · cases hi
          case measure => simp [intOf]; omega
    · obtain rfl : k = ps.length := by omega
      have hd1 : decide (ps.length < ps.length) = false := by simp
      rw [List.take_length] at hg hnd
      have hT : transB ps homes = true := (transB_iff ps homes).2 ⟨by omega, by omega, hg, hnd⟩
      have HT := Lib.hid hT
      have HB := Lib.hid hb
      clear hg hnd hb hT
      go_wp2
      go_ret
      rw [HT.out]
      exact ⟨rfl, HB.out⟩
end Go.Proofs.YtbkblhoagfonjaaGreat

/-
  DERIVED: THE SHELF's CONTRACTS AT THIS DUMP, IN PLAIN WORDS (tools/lay-plain.mjs out of 'TryzShelf.lean', which tools/lay-shelf.mjs wrote): THE SAME DECLARATIONS UNDER THE SAME NAMES: 'import', 'namespace', 'open', 'def', 'theorem' AND NOTHING ELSE: no command of the shelf's: FOR A HAND-IN. Each laying: the table of numbers ('.._ren') and one theorem, a field a fact of the dump's own or the kernel's comparison; each contract: ONE APPLICATION.
-/
namespace Go.Proofs
open Go.Shelf
def Tryz.lays189_ren : Go.Shelf.Ren := ⟨fun | 189 => 111 | 125 => 122 | 257 => 121 | 128 => 132 | 129 => 133 | 294 => 123 | 295 => 124 | 296 => 125 | 297 => 126 | 298 => 127 | 299 => 128 | 216 => 129 | 300 => 130 | 301 => 131 | 328 => 134 | 329 => 135 | 330 => 136 | 331 => 137 | 332 => 138 | 215 => 139 | 343 => 140 | n => n, fun | 28 => 39 | 3 => 3 | 46 => 165 | 0 => 0 | 51 => 144 | 53 => 49 | 4 => 4 | 183 => 181 | 182 => 180 | 131 => 186 | 5 => 5 | 9 => 9 | 218 => 189 | 222 => 193 | 228 => 195 | 229 => 196 | n => n, fun | n => n⟩
theorem Tryz.lays189 : Go.Proofs.Lays.n189 Tryz.prog Tryz.lays189_ren := {
  mixed := by kernel_rfl
  f125 := Tryz.func122.trans (congrArg some (by kernel_rfl))
  f128 := Tryz.func132.trans (congrArg some (by kernel_rfl))
  f129 := Tryz.func133.trans (congrArg some (by kernel_rfl))
  f189 := Tryz.func111.trans (congrArg some (by kernel_rfl))
  f215 := Tryz.func139.trans (congrArg some (by kernel_rfl))
  f216 := Tryz.func129.trans (congrArg some (by kernel_rfl))
  f257 := Tryz.func121.trans (congrArg some (by kernel_rfl))
  f294 := Tryz.func123.trans (congrArg some (by kernel_rfl))
  f295 := Tryz.func124.trans (congrArg some (by kernel_rfl))
  f296 := Tryz.func125.trans (congrArg some (by kernel_rfl))
  f297 := Tryz.func126.trans (congrArg some (by kernel_rfl))
  f298 := Tryz.func127.trans (congrArg some (by kernel_rfl))
  f299 := Tryz.func128.trans (congrArg some (by kernel_rfl))
  f300 := Tryz.func130.trans (congrArg some (by kernel_rfl))
  f301 := Tryz.func131.trans (congrArg some (by kernel_rfl))
  f328 := Tryz.func134.trans (congrArg some (by kernel_rfl))
  f329 := Tryz.func135.trans (congrArg some (by kernel_rfl))
  f330 := Tryz.func136.trans (congrArg some (by kernel_rfl))
  f331 := Tryz.func137.trans (congrArg some (by kernel_rfl))
  f332 := Tryz.func138.trans (congrArg some (by kernel_rfl))
  f343 := Tryz.func140.trans (congrArg some (by kernel_rfl))
  t0 := Tryz.underlying0
  a0 := Tryz.isAgg0
  z0 := Tryz.sizeOf0
  v0 := Tryz.zeroValue0
  t3 := Tryz.underlying3
  a3 := Tryz.isAgg3
  z3 := Tryz.sizeOf3
  v3 := Tryz.zeroValue3
  t4 := Tryz.underlying4
  a4 := Tryz.isAgg4
  z4 := Tryz.sizeOf4
  v4 := Tryz.zeroValue4
  t5 := Tryz.underlying5
  a5 := Tryz.isAgg5
  z5 := Tryz.sizeOf5
  v5 := Tryz.zeroValue5
  t9 := Tryz.underlying9
  a9 := Tryz.isAgg9
  z9 := Tryz.sizeOf9
  v9 := Tryz.zeroValue9
  t28 := Tryz.underlying39
  a28 := Tryz.isAgg39
  z28 := Tryz.sizeOf39
  v28 := Tryz.zeroValue39
  t46 := Tryz.underlying165
  a46 := Tryz.isAgg165
  z46 := Tryz.sizeOf165
  v46 := Tryz.zeroValue165
  t51 := Tryz.underlying144
  a51 := Tryz.isAgg144
  z51 := Tryz.sizeOf144
  v51 := Tryz.zeroValue144
  t53 := Tryz.underlying49
  a53 := Tryz.isAgg49
  z53 := Tryz.sizeOf49
  v53 := Tryz.zeroValue49
  t131 := Tryz.underlying186
  a131 := Tryz.isAgg186
  z131 := Tryz.sizeOf186
  v131 := Tryz.zeroValue186
  t182 := Tryz.underlying180
  a182 := Tryz.isAgg180
  z182 := Tryz.sizeOf180
  v182 := Tryz.zeroValue180
  t183 := Tryz.underlying181
  a183 := Tryz.isAgg181
  z183 := Tryz.sizeOf181
  v183 := Tryz.zeroValue181
  t218 := Tryz.underlying189
  a218 := Tryz.isAgg189
  z218 := Tryz.sizeOf189
  v218 := Tryz.zeroValue189
  t222 := Tryz.underlying193
  a222 := Tryz.isAgg193
  z222 := Tryz.sizeOf193
  v222 := Tryz.zeroValue193
  t228 := Tryz.underlying195
  a228 := Tryz.isAgg195
  z228 := Tryz.sizeOf195
  v228 := Tryz.zeroValue195
  t229 := Tryz.underlying196
  a229 := Tryz.isAgg196
  z229 := Tryz.sizeOf196
  v229 := Tryz.zeroValue196 }
open Go.Sort Go.RowKit in
theorem Tryz.slices_Sort_int (blk off cap : Nat) (zs : List Int) (w : World) (hH : Holds (Value.int .i64) w blk off zs.toArray) (hblk : blk < w.heap.size) (hsz : zs.length < 4611686018427387904) :
    Calls Tryz.prog 111 #[.slice (some ⟨blk, off, none⟩) zs.length cap] w fun e w' =>
      e = .returned (.tuple #[]) ∧ ∃ n os, w' = grow (putRow (Value.int .i64) (Sort.ahead w n) blk off (zs.mergeSort fun x y => decide (x ≤ y)).toArray) os := Any.slices_Sort_int Tryz.lays189 blk off cap zs w hH hblk hsz
open Go.RowKit Go.Sort in
/-- .. and plain. (LAID: no walk: one application.) -/
theorem Tryz.slices_Sort_int_none (p : Option Addr) (cap : Nat) (w : World) :
    Calls Tryz.prog 111 #[.slice p 0 cap] w fun e w' => e = .returned (.tuple #[]) ∧ w' = w := Any.slices_Sort_int_none Tryz.lays189 p cap w
def Tryz.keysA_ren : Go.Shelf.Ren := ⟨fun | 7 => 94 | 10 => 112 | n => n, fun | 23 => 71 | 26 => 3 | 3 => 53 | 28 => 150 | 0 => 0 | 27 => 149 | 33 => 167 | 4 => 4 | n => n, fun | n => n⟩
theorem Tryz.keysA : Go.Proofs.SlLaysZI.n7 Tryz.prog Tryz.keysA_ren := {
  mixed := by kernel_rfl
  f7 := ⟨Tryz.f94.name, by decide, Tryz.func94.trans (congrArg some (by kernel_rfl))⟩
  f10 := ⟨Tryz.f112.name, by decide, Tryz.func112.trans (congrArg some (by kernel_rfl))⟩
  t0 := Tryz.underlying0
  a0 := Tryz.isAgg0
  z0 := Tryz.sizeOf0
  v0 := Tryz.zeroValue0
  t4 := Tryz.underlying4
  a4 := Tryz.isAgg4
  z4 := Tryz.sizeOf4
  v4 := Tryz.zeroValue4
  t23 := Tryz.underlying71
  a23 := Tryz.isAgg71
  z23 := Tryz.sizeOf71
  v23 := Tryz.zeroValue71
  t26 := Tryz.underlying3
  a26 := Tryz.isAgg3
  z26 := Tryz.sizeOf3
  v26 := Tryz.zeroValue3
  t27 := Tryz.underlying149
  a27 := Tryz.isAgg149
  z27 := Tryz.sizeOf149
  v27 := Tryz.zeroValue149
  t28 := Tryz.underlying150
  a28 := Tryz.isAgg150
  z28 := Tryz.sizeOf150
  v28 := Tryz.zeroValue150
  t33 := Tryz.underlying167
  a33 := Tryz.isAgg167
  z33 := Tryz.sizeOf167
  v33 := Tryz.zeroValue167 }
def Tryz.sortedA_ren : Go.Shelf.Ren := ⟨fun | 6 => 93 | 8 => 110 | 9 => 111 | 11 => 120 | 13 => 122 | 12 => 121 | 23 => 132 | 24 => 133 | 14 => 123 | 15 => 124 | 16 => 125 | 17 => 126 | 18 => 127 | 19 => 128 | 20 => 129 | 21 => 130 | 22 => 131 | 25 => 134 | 26 => 135 | 27 => 136 | 28 => 137 | 29 => 138 | 30 => 139 | 31 => 140 | n => n, fun | 26 => 3 | 28 => 150 | 24 => 39 | 0 => 0 | 3 => 3 | 37 => 165 | 48 => 144 | 50 => 49 | 4 => 4 | 40 => 181 | 39 => 180 | 45 => 186 | 5 => 5 | 9 => 9 | 51 => 189 | 55 => 193 | 57 => 195 | 58 => 196 | 33 => 167 | n => n, fun | n => n⟩
theorem Tryz.sortedA : Go.Proofs.SlLaysZI.n6 Tryz.prog Tryz.sortedA_ren := {
  mixed := by kernel_rfl
  f6 := ⟨Tryz.f93.name, by decide, Tryz.func93.trans (congrArg some (by kernel_rfl))⟩
  f8 := ⟨Tryz.f110.name, by decide, Tryz.func110.trans (congrArg some (by kernel_rfl))⟩
  f11 := ⟨Tryz.f120.name, by decide, Tryz.func120.trans (congrArg some (by kernel_rfl))⟩
  t0 := Tryz.underlying0
  a0 := Tryz.isAgg0
  z0 := Tryz.sizeOf0
  v0 := Tryz.zeroValue0
  t24 := Tryz.underlying39
  a24 := Tryz.isAgg39
  z24 := Tryz.sizeOf39
  v24 := Tryz.zeroValue39
  t26 := Tryz.underlying3
  a26 := Tryz.isAgg3
  z26 := Tryz.sizeOf3
  v26 := Tryz.zeroValue3
  t28 := Tryz.underlying150
  a28 := Tryz.isAgg150
  z28 := Tryz.sizeOf150
  v28 := Tryz.zeroValue150
  i26 := by kernel_rfl }
end Go.Proofs
