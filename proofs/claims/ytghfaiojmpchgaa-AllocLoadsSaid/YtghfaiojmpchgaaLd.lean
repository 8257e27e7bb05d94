/- The walk of the law AllocLoads. -/
import Derived.Test.YtghfaiojmpchgaaLb
import Derived.Test.YtghfaiojmpchgaaLc
import Derived.Test.YtghfaiojmpchgaaPa
namespace Go.Proofs.Ytghfaiojmpchgaa
open Go.RowKit Go.Tn Go.Tn.Bits

/-- Bytes came in. -/
def RawIn (w : World) (ao : Option Addr) (len : Nat) (v : Nat → Nat) : Prop := 0 < len → ∃ b off, ao = some ⟨b, off, none⟩ ∧ b < w.heap.size ∧ ∀ i, i < len → w.cell? ⟨b, off + i, none⟩ = some (.int .u8 (v i)) ∧ v i < 256
/-- The homes of some bytes. -/
def homesOf (v : Nat → Nat) : Nat → Bool := fun i => decide (i < 1024) && (v (i / 8)).testBit (7 - i % 8)
theorem by8_homes (v : Nat → Nat) {i : Nat} (hi : i < 128) (h : v i < 256) : by8 (homesOf v) i = v i := by
  have := num_of (m := 8) (x := v i) h
  rw [this]
  unfold by8
  refine num_congr fun j hj => ?_
  unfold homesOf
  have h1 : 8 * i + j < 1024 := by omega
  rw [show (8 * i + j) / 8 = i by omega, show 7 - (8 * i + j) % 8 = 8 - 1 - j by omega]
  simp [h1]
theorem RawIn.bytes {w : World} {ao : Option Addr} {v : Nat → Nat} (h : RawIn w ao 128 v) : BytesIn w ao (homesOf v) := by
  obtain ⟨b, off, rfl, hb, hc⟩ := h (by decide)
  exact ⟨b, off, rfl, hb, fun i hi => by rw [by8_homes v hi (hc i hi).2]; exact (hc i hi).1⟩
theorem BytesIn.below {w w' : World} {ao : Option Addr} {T : Nat → Bool} (h : BytesIn w ao T) (hb : Below w.heap.size w w') : BytesIn w' ao T := by
  obtain ⟨b, off, rfl, hlt, hc⟩ := h
  exact ⟨b, off, rfl, Nat.lt_of_lt_of_le hlt hb.size, fun i hi => by rw [hb.cell (p := ⟨b, off + i, none⟩) hlt]; exact hc i hi⟩
theorem BytesIn.sl {w : World} {ao : Option Addr} {T : Nat → Bool} (h : BytesIn w ao T) (cap : Nat) : ByteSl w (.slice ao 128 cap) (byteList T) := by
  obtain ⟨b, off, rfl, hlt, hc⟩ := h
  refine ⟨some ⟨b, off, none⟩, cap, by rw [show (byteList T).length = 128 by simp [byteList]], by unfold maxLen; simp [byteList], fun _ => ⟨b, off, rfl, fun i x hi => ?_⟩⟩
  have hl : i < 128 := by
    obtain ⟨h1, _⟩ := List.getElem?_eq_some_iff.1 hi
    simpa [byteList] using h1
  rw [hc i hl]
  simp [byteList, hl] at hi
  rw [hi]

theorem cut_any (w : World) (ao : Option Addr) (len cap : Nat) (v : Nat → Nat) (hz : RawIn w ao len v) (hlc : len ≤ cap) (hcm : cap ≤ maxLen) : Calls Try.prog 25 #[.slice ao len cap, .int .i64 140] w
    fun e w' => (∃ l, e = .returned (.slice ao l cap) ∧ l ≤ len ∧ (l = 128 ↔ len = 128)) ∧ w' = w := by
  unfold maxLen at hcm
  by_cases h : 140 < len
  · have h' : (140 : Int) < (len : Int) := by omega
    obtain ⟨b, off, rfl, hb, hc⟩ := hz (by omega)
    go_enter Try.func25, Try.ntmps25
    go_wp2
    go_ret
    exact ⟨⟨140, rfl, by omega, by omega⟩, rfl⟩
  · have h' : (len : Int) ≤ 140 := by omega
    go_enter Try.func25, Try.ntmps25
    go_wp2
    go_ret
    exact ⟨⟨len, rfl, Nat.le_refl _, Iff.rfl⟩, rfl⟩

/-- Neither side loads anything: both say the same. -/
theorem load_no (w : World) (ao : Option Addr) (len cap : Nat) (n : Int) (h : ¬ (1 ≤ n ∧ n ≤ 1024)) : Calls Try.prog 26 #[.slice ao len cap, .int .i64 n] w
    fun e w' => e = .returned (.tuple #[.pointer none, .int .i64 2]) ∧ w' = w := by
  go_enter Try.func26, Try.ntmps26
  go_wp2_with fail
  refine (new_no w n h).mono ?_
  rintro e w' ⟨rfl, hw⟩
  obtain rfl := hw.symm
  clear hw
  go_wp2
  go_ret2
  exact ⟨rfl, rfl⟩
theorem rLoad_no (w : World) (ao : Option Addr) (len cap : Nat) (n : Int) (h : ¬ (1 ≤ n ∧ n ≤ 1024)) : Calls Try.prog 27 #[.slice ao len cap, .int .i64 n] w
    fun e w' => e = .returned (.tuple #[.pointer none, .int .i64 2]) ∧ w' = w := by
  go_enter Try.func27, Try.ntmps27
  go_wp2_with fail
  refine (rNew_no w n h).mono ?_
  rintro e w' ⟨rfl, hw⟩
  obtain rfl := hw.symm
  clear hw
  go_wp2
  go_ret2
  exact ⟨rfl, rfl⟩
theorem load_len (w : World) (ao : Option Addr) (len cap : Nat) (n : Nat) (h1 : 1 ≤ n) (h2 : n ≤ 1024) (hl : len ≠ 128) : Calls Try.prog 26 #[.slice ao len cap, .int .i64 n] w
    fun e w' => e = .returned (.tuple #[.pointer none, .int .i64 4]) ∧ Below w.heap.size w w' := by
  have t1 : ((len : Int) != 128) = true := by simp; omega
  go_enter Try.func26, Try.ntmps26
  go_wp2_with fail
  refine (new_any w n h1 h2).mono ?_
  rintro e w1 ⟨rfl, rfl⟩
  have hb0 : Below w.heap.size w (w.alloc (.cells (mapCells n (fun _ => false)) 53)) := (Below.refl _ _).alloc (Nat.le_refl _) _
  generalize w.alloc (.cells (mapCells n (fun _ => false)) 53) = w1 at *
  go_wp2
  go_ret2
  exact ⟨rfl, hb0⟩
theorem rLoad_len (w : World) (ao : Option Addr) (len cap : Nat) (n : Nat) (h1 : 1 ≤ n) (h2 : n ≤ 1024) (hl : len ≠ 128) : Calls Try.prog 27 #[.slice ao len cap, .int .i64 n] w
    fun e w' => e = .returned (.tuple #[.pointer none, .int .i64 4]) ∧ Below w.heap.size w w' := by
  have t1 : ((len : Int) != 128) = true := by simp; omega
  go_enter Try.func27, Try.ntmps27
  go_wp2_with fail
  refine (rNew_any w n h1 h2).mono ?_
  rintro e w1 ⟨b, bt, rfl, hR, hb, hbt, hbl⟩
  go_wp2
  go_ret2
  exact ⟨rfl, hbl⟩

set_option maxHeartbeats 4000000 in
set_option maxRecDepth 20000 in
theorem loads_walk (w : World) (x : Int) (ao : Option Addr) (len cap : Nat) (v : Nat → Nat) (hz : RawIn w ao len v) (hlc : len ≤ cap) (hcm : cap ≤ maxLen) :
    Calls Try.prog 6 #[.slice ao len cap, .int .i64 x] w fun e w' => e = .returned (.bool true) ∧ Below w.heap.size w w' := by
  go_enter Try.func6, Try.ntmps6
  go_wp2_with fail
  refine (cut_any w ao len cap v hz hlc hcm).mono ?_
  rintro e w' ⟨⟨l, rfl, hle, h128⟩, hw⟩
  obtain rfl := hw.symm
  clear hw
  by_cases hx : 1 ≤ x ∧ x ≤ 1024
  · obtain ⟨n, rfl⟩ := Int.eq_ofNat_of_zero_le (show 0 ≤ x by omega)
    have h1 : 1 ≤ n := by omega
    have h2 : n ≤ 1024 := by omega
    by_cases hl : l = 128
    · have hlen := h128.1 hl
      subst hl
      subst hlen
      have hB := hz.bytes
      have hT : ∀ i, 1024 ≤ i → homesOf v i = false := fun i hi => by
        unfold homesOf
        have : ¬ i < 1024 := by omega
        simp [this]
      clear hz h128 hle
      generalize homesOf v = T at *
      go_wp2_with fail
      refine (load_any w ao cap T hB hT n h1 h2).mono ?_
      rintro e w1 ⟨hA, hA', hb1⟩
      by_cases hok : ∀ j, j < 1024 → n ≤ j → T j = false
      · obtain ⟨b, rfl, hM, hbn⟩ := hA hok
        clear hA hA'
        go_wp2_with fail
        refine (rLoad_any w1 ao cap T (hB.below hb1) hT n h1 h2).mono ?_
        rintro e w2 ⟨hA, hA', hb2⟩
        obtain ⟨rb, bt, rfl, hR, hrb, hbt⟩ := hA hok
        clear hA hA'
        have hb2' := hb1.trans (hb2.mono hb1.size)
        have hM2 := hM.below hb2 hM.lt
        have hB2 := hB.below hb2'
        clear hok hM hb2 hrb hbt
        go_wp2_with fail
        refine (bytes_any w2 b n T hM2).mono ?_
        rintro e w3 ⟨bs, rfl, hbs, hbsl, hb23⟩
        have hb3 := hb2'.trans (hb23.mono hb2'.size)
        have hM3 := hM2.below hb23 hM2.lt
        have hR3 : RAt w3 rb bt n T := hR.mod (Mod.of_below hb23) (by have := lt_of_block hR.blk; omega) (by have := hR.bools.lt; omega)
        have hB3 := hB.below hb3
        have hs1 : ByteSl w3 (.slice (some ⟨bs, 0, none⟩) 128 128) (byteList T) := ByteSl.of hbs
        have hs2 := hB3.sl cap
        clear hb23 hM2 hR hB2 hb2'
        go_wp2_with fail
        refine (same_any w3 _ _ (byteList T) (byteList T) hs1 hs2).mono ?_
        rintro e w4 ⟨he, nd, rfl⟩
        rw [decide_eq_true rfl] at he
        subst he
        have hM4 := hM3.drewN nd
        have hR4 := hR3.drewN nd
        have hb4 := below_drewN hb3 nd
        have hB4 := hB.below hb4
        clear hM3 hR3 hb3 hB3 hs1 hs2 hbs
        generalize w3.drewN nd = w4 at *
        go_wp2_with fail
        refine (rBytes_any w4 rb bt n T hR4).mono ?_
        rintro e w5 ⟨bs', rfl, hbs, hbsl', hb45⟩
        have hb5 := hb4.trans (hb45.mono hb4.size)
        have hM5 := hM4.below hb45 hM4.lt
        have hR5 : RAt w5 rb bt n T := hR4.mod (Mod.of_below hb45) (by have := lt_of_block hR4.blk; omega) (by have := hR4.bools.lt; omega)
        have hB5 := hB.below hb5
        have hs1 : ByteSl w5 (.slice (some ⟨bs', 0, none⟩) 128 128) (byteList T) := ByteSl.of hbs
        have hs2 := hB5.sl cap
        clear hb45 hM4 hR4 hB4 hb4
        go_wp2_with fail
        refine (same_any w5 _ _ (byteList T) (byteList T) hs1 hs2).mono ?_
        rintro e w6 ⟨he, nd6, rfl⟩
        rw [decide_eq_true rfl] at he
        subst he
        have hM6 := hM5.drewN nd6
        have hR6 := hR5.drewN nd6
        have hb6 := below_drewN hb5 nd6
        clear hM5 hR5 hb5 hB5 hs1 hs2 hbs
        generalize w5.drewN nd6 = w6 at *
        go_wp2_with fail
        refine (free_any w6 b n T hM6).mono ?_
        rintro e w7 ⟨rfl, hw⟩
        obtain rfl := hw.symm
        clear hw
        go_wp2_with fail
        refine (rFree_any w6 rb bt n T hR6).mono ?_
        rintro e w7 ⟨rfl, hw⟩
        obtain rfl := hw.symm
        clear hw
        go_wp2_with fail
        refine (lives_any w6).mono ?_
        rintro e w7 ⟨rfl, hb7⟩
        go_wp2
        go_ret
        exact ⟨rfl, hb6.trans (hb7.mono hb6.size)⟩
      · have he := hA' hok
        clear hA hA'
        subst he
        go_wp2_with fail
        refine (rLoad_any w1 ao cap T (hB.below hb1) hT n h1 h2).mono ?_
        rintro e w2 ⟨hA, hA', hb2⟩
        have he := hA' hok
        clear hA hA'
        subst he
        have hb2' := hb1.trans (hb2.mono hb1.size)
        clear hok hb2
        go_wp2_with fail
        refine (lives_any w2).mono ?_
        rintro e w3 ⟨rfl, hb3⟩
        go_wp2
        go_ret
        exact ⟨rfl, hb2'.trans (hb3.mono hb2'.size)⟩
    · clear hz h128
      go_wp2_with fail
      refine (load_len w ao l cap n h1 h2 hl).mono ?_
      rintro e w1 ⟨rfl, hb1⟩
      go_wp2_with fail
      refine (rLoad_len w1 ao l cap n h1 h2 hl).mono ?_
      rintro e w2 ⟨rfl, hb2⟩
      have hb2' := hb1.trans (hb2.mono hb1.size)
      go_wp2_with fail
      refine (lives_any w2).mono ?_
      rintro e w3 ⟨rfl, hb3⟩
      go_wp2
      go_ret
      exact ⟨rfl, hb2'.trans (hb3.mono hb2'.size)⟩
  · clear hz h128
    go_wp2_with fail
    refine (load_no w ao l cap x hx).mono ?_
    rintro e w' ⟨rfl, hw⟩
    obtain rfl := hw.symm
    clear hw
    go_wp2_with fail
    refine (rLoad_no w ao l cap x hx).mono ?_
    rintro e w' ⟨rfl, hw⟩
    obtain rfl := hw.symm
    clear hw
    go_wp2_with fail
    refine (lives_any w).mono ?_
    rintro e w3 ⟨rfl, hb3⟩
    go_wp2
    go_ret
    exact ⟨rfl, hb3⟩
end Go.Proofs.Ytghfaiojmpchgaa
