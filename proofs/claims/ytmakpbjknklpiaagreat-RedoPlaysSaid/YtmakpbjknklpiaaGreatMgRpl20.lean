/- The document's Bytes: walked. -/
import Derived.Test.YtmakpbjknklpiaaGreatMgRpl18
import Derived.Test.YtmakpbjknklpiaaGreatMgRpl17
/- lives: what the model answers. -/
namespace Go.Proofs.YtmakpbjknklpiaaGreat
open Go.RowKit Go.Tn Go.Tn.Bt Go.Tn.Lp Go.Tn.Dk
def lv0 : Lg := (openB (newD 12) 4).getD (log0 0 0 0 0)
def lvPut : List Pt := [(1, 7 :: List.replicate 127 0)]
def lvW : Lg × Dsk × Nat := lv0.write (newD 12) lvPut
def lvS : Lg × Dsk := lvW.1.sync lvW.2.1
def lv1 : Lg := (openB lvS.2 4).getD (log0 0 0 0 0)
set_option maxRecDepth 100000 in
theorem lv0_ok : (openB (newD 12) 4).isSome = true := by decide +kernel
set_option maxRecDepth 100000 in
theorem lvW_ok : lvW.2.2 = 0 := by decide +kernel
set_option maxRecDepth 100000 in
theorem lvS_ok : lvS.1.err = 0 := by decide +kernel
set_option maxRecDepth 100000 in
theorem lv1_ok : (openB lvS.2 4).isSome = true := by decide +kernel
set_option maxRecDepth 100000 in
theorem lv1_home : lv1.home lvS.2 1 = 7 :: List.replicate 127 0 := by decide +kernel
set_option maxRecDepth 100000 in
theorem lv0_new : newestB (newD 12) 6 < 16777215 := by decide +kernel
set_option maxRecDepth 100000 in
theorem lv0_next : lv0.next < 1099511627776 := by decide +kernel
set_option maxRecDepth 100000 in
theorem lv1_new : newestB lvS.2 6 < 16777215 := by decide +kernel
set_option maxRecDepth 100000 in
theorem lv1_next : lv1.next < 1099511627776 := by decide +kernel
set_option maxRecDepth 100000 in
theorem lvS_L : lvS.2.L.length = 12 := by decide +kernel
theorem lv0_open : openB (newD 12) 4 = some lv0 := by
  have := lv0_ok
  unfold lv0
  cases h : openB (newD 12) 4 with
  | none => rw [h] at this; cases this
  | some l => rfl
theorem lv1_open : openB lvS.2 4 = some lv1 := by
  have := lv1_ok
  unfold lv1
  cases h : openB lvS.2 4 with
  | none => rw [h] at this; cases this
  | some l => rfl
end Go.Proofs.YtmakpbjknklpiaaGreat

/- lives, walked. -/
namespace Go.Proofs.YtmakpbjknklpiaaGreat
open Go.RowKit Go.Tn Go.Tn.Bt Go.Tn.Lp Go.Tn.Dk
theorem lv0_lok : lv0.ok (newD 12) := (open_fit (newD_ok (by omega) (by omega)) (n := 4) (by omega) (by simp [newD]) lv0_open).ok lv0_next
theorem lvPut_byte : ∀ q ∈ lvPut, ∀ x ∈ q.2, x < 256 := by decide +kernel
set_option maxRecDepth 20000 in
theorem lives_any (w : World) : Calls Tryz.prog 29 #[] w fun e w' => e = .returned (.bool true) ∧ Below w.heap.size w w' := by
  go_enter Tryz.func29, Tryz.ntmps29
  have hn := newd_any w 12 (by omega) (by omega)
  go_wp2_with fail
  refine hn.mono ?_
  rintro e w1 ⟨p, F, rfl, hD, hb1, hF⟩
  have ho := open_main hD 4 (by omega) (by simp [newD]) (by omega) lv0_new lv0 lv0_open
  clear hn
  go_wp2_with fail
  refine ho.mono ?_
  rintro e w2 ⟨g, G, rfl, hL, hb2, hG⟩
  clear ho
  have hD2 := hD.below hb2
  have hFG : ∀ b, G b → ¬ F b := fun b h1 h2 => absurd (hD.lt b h2) (Nat.not_lt.2 (hG b h1))
  go_wp2_with fail
  have hl7 : LSl en8 1 (w2.alloc (.cells #[.int .u8 7] 5)) (.slice (some ⟨w2.heap.size, 0, none⟩) 1 1) [7] := LSl.lit (w := w2) (x := (7 : Nat)) el8.len 5
  have hb3 : Below w2.heap.size w2 (w2.alloc (.cells #[.int .u8 7] 5)) := (Below.refl _ _).alloc (Nat.le_refl _) _
  have hsc := rsector_any _ _ _ hl7
  refine hsc.mono ?_
  rintro e w4 ⟨v4, rfl, hO4, hb4⟩
  clear hsc hl7
  have hb24 : Below w2.heap.size w2 w4 := hb3.trans (hb4.mono hb3.size)
  obtain ⟨a4, n4, c4, rfl⟩ := LOut.shape hO4
  clear hb3 hb4
  go_wp2_with (first
    | ((with_reducible refine wpList_execW (exec_buildSliceA (k := 2) (cells := #[.int .i64 1, .slice a4 n4 c4]) Tryz.underlying37 (by kernel_rfl) (by omega) (by omega) rfl ?_) ?_ ?_); rfl; rfl; go_frame)
    | fail)
  have hb5 : Below w2.heap.size w2 (w4.alloc (.cells #[.int .i64 1, .slice a4 n4 c4] 96)) := hb24.alloc hb24.size _
  have hO5 := hO4.below ((Below.refl w4.heap.size w4).alloc (Nat.le_refl _) (.cells #[.int .i64 1, .slice a4 n4 c4] 96))
  have hL5 := hL.below hb5
  have hD5 := hD2.below hb5
  have hGl := hL.lt
  have hFl := hD2.lt
  have hP5 : PtsA (w4.alloc (.cells #[.int .i64 1, .slice a4 n4 c4] 96)) (fun b => G b ∨ F b) (.slice (some ⟨w4.heap.size, 0, none⟩) 1 1) lvPut := by
    refine ⟨[((1, rsecB [7]), (a4, n4, c4))], rfl, LSl.lit (w := w4) (x := (((1, rsecB [7]), (a4, n4, c4)) : Pt × Sv)) elPt.len 96, ?_, ?_⟩
    · intro r hr
      have e : w4.heap.size = r := by cases hr; rfl
      have := hb24.size
      rintro (h | h)
      · have := hGl _ h; omega
      · have := hFl _ h; omega
    · intro x hx
      rw [List.mem_singleton.1 hx]
      refine ⟨hO5.sl el8.len, fun r hr => ?_⟩
      have := hO5.lo r hr
      simp at this
      rintro (h | h)
      · have := hGl _ h; omega
      · have := hFl _ h; omega
  have hwr := gwrite_any hL5 hD5 hFG lv0_lok _ _ hP5 lvPut_byte (by decide) (by decide)
  have HB5 := Lib.hid ((hb1.trans (hb2.mono hb1.size)).trans (hb5.mono (hb1.trans (hb2.mono hb1.size)).size))
  generalize w4.alloc (.cells #[.int .i64 1, .slice a4 n4 c4] 96) = w5 at *
  refine hwr.mono ?_
  clear hwr
  rintro e w6 ⟨rfl, G6, F6, hL6, hD6, hm6, hG6, hF6, hGF6⟩
  rw [show (lv0.write (newD 12) lvPut).2.2 = 0 from lvW_ok]
  have hL6 : LAt w6 G6 g p lvW.1 := hL6
  have hD6 : DAt w6 F6 p lvW.2.1 := hD6
  have hsy := sync_any hL6 hD6 hGF6
  rw [show (lvW.1.sync lvW.2.1).1.err = 0 from lvS_ok] at hsy
  have HB6 : Hid (Below w.heap.size w w6) := Lib.hid (HB5.out.trans (hm6.below HB5.out.size fun x hx hS => by
    rcases hS with h | h
    · have := hG x h; have := hb1.size; omega
    · exact absurd hx (Nat.not_lt.2 (hF x h))))
  have hG6' : ∀ b, G6 b → w.heap.size ≤ b := fun b h => by
    rcases hG6 b h with h | h
    · have := hG b h; have := hb1.size; omega
    · have := HB5.out.size; omega
  have hF6' : ∀ b, F6 b → w.heap.size ≤ b := fun b h => by
    rcases hF6 b h with h | h
    · exact hF b h
    · have := HB5.out.size; omega
  have HG6 := Lib.hid hG6'
  have HF6 := Lib.hid hF6'
  clear hL6 hD6 hm6 hG6 hF6 hGF6 hG6' hF6' hP5 hD5 hL5 hO5 hO4 hb5 hb24 hD2 hL hD hFG hGl hFl hF hG
  go_wp2_with fail
  refine hsy.mono ?_
  clear hsy
  rintro e w7 ⟨rfl, hL7, hD7, hm7⟩
  have hD7 : DAt w7 F6 p lvS.2 := hD7
  have HB7 : Hid (Below w.heap.size w w7) := Lib.hid (HB6.out.trans (hm7.below HB6.out.size fun x hx hS => by
    rcases hS with h | h
    · exact absurd hx (Nat.not_lt.2 (HG6.out x h))
    · exact absurd hx (Nat.not_lt.2 (HF6.out x h))))
  have ho := open_main hD7 4 (by omega) (by rw [lvS_L]; decide) (by omega) lv1_new lv1 lv1_open
  have HD7 := Lib.hid hD7
  clear hL7 hm7 hD7
  go_wp2_with fail
  refine ho.mono ?_
  clear ho
  rintro e w8 ⟨g8, G8, rfl, hL8, hb8, hG8⟩
  have hlok : lv1.ok lvS.2 := (open_fit HD7.out.ok (n := 4) (by omega) (by rw [lvS_L]; decide) lv1_open).ok lv1_next
  have hn4 : lv1.n = 4 := open_n lv1_open
  have hrd := gread_any hL8 (HD7.out.below hb8) hlok 1 (by unfold Lg.homes; rw [lvS_L, hn4]; decide)
  rw [lv1_home] at hrd
  have HB8 := Lib.hid (HB7.out.trans (hb8.mono HB7.out.size))
  clear hL8 hb8 hG8 hlok hn4
  go_wp2_with fail
  refine hrd.mono ?_
  clear hrd
  rintro e w9 ⟨v9, rfl, hv9, hb9⟩
  have HB9 := Lib.hid (HB8.out.trans (hb9.mono HB8.out.size))
  obtain ⟨ao, cap, rfl, h1, h2, h3⟩ := hv9.sl
  obtain ⟨b9, o9, rfl, hl9, hc9⟩ := h3 (by simp)
  have q0 : w9.cell? ⟨b9, o9, none⟩ = some (.int .u8 7) := hc9 0 7 rfl 0 (by simp)
  have hlen : (7 :: List.replicate 127 0 : List Nat).length = 128 := rfl
  rw [hlen]
  clear h1 h2 h3 hv9 hb9 hc9 hlen
  go_wp2
  go_ret
  exact ⟨rfl, HB9.out⟩
end Go.Proofs.YtmakpbjknklpiaaGreat

/- The document's Within, Few; the disk's Waits: walked. -/
namespace Go.Proofs.YtmakpbjknklpiaaGreat
open Go.RowKit Go.Tn Go.Tn.Bt Go.Tn.Lp Go.Tn.Dk
def within (x a b : Int) : Int := if x < a then a else if b < x then b else x
theorem within_any (w : World) (x a b : Int) : Calls Tryz.prog 5 #[.int .i64 x, .int .i64 a, .int .i64 b] w fun e w' => e = .returned (.int .i64 (within x a b)) ∧ w' = w := by
  unfold within
  by_cases h1 : x < a
  · have hd1 : decide (x < a) = true := by simp [h1]
    rw [if_pos h1]
    go_enter Tryz.func5, Tryz.ntmps5
    go_wp2
    go_ret
    exact ⟨rfl, rfl⟩
  · have hd1 : decide (x < a) = false := by simp; omega
    rw [if_neg h1]
    by_cases h2 : b < x
    · have hd2 : decide (b < x) = true := by simp [h2]
      rw [if_pos h2]
      go_enter Tryz.func5, Tryz.ntmps5
      go_wp2
      go_ret
      exact ⟨rfl, rfl⟩
    · have hd2 : decide (b < x) = false := by simp; omega
      rw [if_neg h2]
      go_enter Tryz.func5, Tryz.ntmps5
      go_wp2
      go_ret
      exact ⟨rfl, rfl⟩
theorem within_nat (n : Int) {a b : Nat} (h : a ≤ b) : ∃ m : Nat, within n a b = m ∧ a ≤ m ∧ m ≤ b := by
  unfold within
  split
  · exact ⟨a, rfl, Nat.le_refl _, h⟩
  · split
    · exact ⟨b, rfl, h, Nat.le_refl _⟩
    · exact ⟨n.toNat, by omega, by omega, by omega⟩
/-- At most n puts, their data a sector's each, unless odd. -/
def fewP (odd : Bool) (p : Pt) : Pt := (p.1, if odd = true then p.2.take 130 else rsecB p.2)
def fewB (ps : List Pt) (n : Nat) (odd : Bool) : List Pt := (ps.take n).map (fewP odd)
theorem few_snoc {ps : List Pt} {k : Nat} {x : Pt} (odd : Bool) (h : ps[k]? = some x) : (ps.take (k + 1)).map (fewP odd) = (ps.take k).map (fewP odd) ++ [fewP odd x] := by
  rw [take_snoc h, List.map_append]
  rfl
theorem PtsO.shape {B : Nat} {w : World} {v : Value} {ps : List Pt} (h : PtsO B w v ps) : ∃ a n c, v = .slice a n c := by
  obtain ⟨xs, -, hO, -⟩ := h
  exact hO.shape
set_option maxRecDepth 20000 in
set_option maxHeartbeats 4000000 in
theorem few_any (w : World) (v : Value) (ps : List Pt) (hp : PtsI w v ps) (n : Nat) (hn : n ≤ 1000) (odd : Bool) :
    Calls Tryz.prog 10 #[v, .int .i64 n, .bool odd] w fun e w' => ∃ v', e = .returned v' ∧ PtsO w.heap.size w' v' (fewB ps n odd) ∧ Below w.heap.size w w' := by
  obtain ⟨xs, hxs, hL, hD⟩ := hp
  have hxl : xs.length = ps.length := by rw [← hxs]; simp
  obtain ⟨ao, cap, rfl, h1, h2, h3⟩ := hL
  rw [hxl] at h1 h3 ⊢
  unfold maxLen at h2
  have HXS := Lib.hid hxs
  have HD := Lib.hid hD
  have HXL := Lib.hid hxl
  clear hxs hD hxl
  have hn63 : (n : Int) ≤ 1000 := by omega
  have hl63 : (ps.length : Int) ≤ 9223372036854775807 := by omega
  go_enter Tryz.func10, Tryz.ntmps10
  go_wp2_with fail
  go_loopw [7, 8] (fun ov iv wi => ∃ k : Nat, k ≤ ps.length ∧ k ≤ n ∧ iv = .int .i64 k ∧ Below w.heap.size w wi ∧ PtsO w.heap.size wi ov ((ps.take k).map (fewP odd))) (fun _ iv _ => ps.length - (intOf iv).toNat)
  case atStart => exact ⟨0, Nat.zero_le _, Nat.zero_le _, rfl, Below.refl _ _, [], rfl, LOut.nil (Nat.le_refl _), fun x hx => by cases hx⟩
  case round =>
    obtain ⟨k, hk, hkn, rfl, hb, hO⟩ := hrel
    by_cases hkl : k < ps.length ∧ k < n
    · obtain ⟨hkl, hkn'⟩ := hkl
      have hkl' : decide (k < ps.length) = true := by simp [hkl]
      have hkn'' : decide (k < n) = true := by simp [hkn']
      obtain ⟨x, hx⟩ : ∃ x, xs[k]? = some x := ⟨_, List.getElem?_eq_getElem (by rw [HXL.out]; exact hkl)⟩
      obtain ⟨b, off, rfl, hbl, hcells⟩ := h3 (by omega)
      have hlies := (hcells k x hx).below' hb hbl
      have hpx : ps[k]? = some x.1 := by rw [← HXS.out, List.getElem?_map, hx]; rfl
      have hdx := (HD.out x (List.mem_of_getElem? hx)).below hb
      have hsn := few_snoc odd hpx
      obtain ⟨⟨at_, dat⟩, ⟨a1, n1, c1⟩⟩ := x
      have q0 : wr.cell? ⟨b, off + k * 2, none⟩ = some (.int .i64 at_) := hlies 0 (by simp [enPt])
      have q1 : wr.cell? ⟨b, off + k * 2 + 1, none⟩ = some (.slice a1 n1 c1) := hlies 1 (by simp [enPt])
      have hbr : b < wr.heap.size := Nat.lt_of_lt_of_le hbl hb.size
      have hsc := rsector_any wr _ dat hdx
      have HSN := Lib.hid hsn
      have HB := Lib.hid hb
      have HO := Lib.hid hO
      clear hx hcells hlies hpx hsn hb hO
      have hO' := HO.out
      obtain ⟨xs5, hxs5, hO5, hD5⟩ := hO'
      have hx5 : xs5.length = k := by
        have := congrArg List.length hxs5
        rw [List.length_map, List.length_map, List.length_take] at this
        omega
      have hol : xs5.length ≤ 1000000000 := by omega
      obtain ⟨a7, n7, c7, rfl⟩ := hO5.shape
      have HXS5 := Lib.hid hxs5
      have HO5 := Lib.hid hO5
      have HD5 := Lib.hid hD5
      clear hxs5 hO5 hD5 HO hx5
      have hPd : (fewP odd (at_, dat)).2 = if odd = true then dat.take 130 else rsecB dat := rfl
      have hP1 : fewP odd (at_, dat) = (at_, (fewP odd (at_, dat)).2) := rfl
      generalize (fewP odd (at_, dat)).2 = dd at *
      rw [hP1] at HSN
      clear hP1
      have HPD := Lib.hid hPd
      clear hPd
      go_wp2_with fail
      refine hsc.mono ?_
      rintro e w8 ⟨v8, rfl, hO8, hb8⟩
      clear hsc
      obtain ⟨a8, n8, c8, rfl⟩ := LOut.shape hO8
      have q0' : w8.cell? ⟨b, off + k * 2, none⟩ = some (.int .i64 at_) := (hb8.cell (p := ⟨b, off + k * 2, none⟩) hbr).trans q0
      have q1' : w8.cell? ⟨b, off + k * 2 + 1, none⟩ = some (.slice a1 n1 c1) := (hb8.cell (p := ⟨b, off + k * 2 + 1, none⟩) hbr).trans q1
      have hbr8 : b < w8.heap.size := Nat.lt_of_lt_of_le hbr hb8.size
      have hcu := rcut_any w8 _ dat (LSl.below hdx hb8) 130 (by omega)
      have HB8 := Lib.hid hb8
      clear q0 q1 hb8
      have key : ∀ (a9 : Option Addr) (n9 c9 : Nat) (w9 : World), LOut en8 1 5 wr.heap.size w9 (.slice a9 n9 c9) dd → Below wr.heap.size wr w9 → ∀ v w', LOut enPt 2 96 w.heap.size w' v (xs5 ++ [((at_, dd), (a9, n9, c9))]) → Mod (fun b => (Value.slice a7 n7 c7).ownBlock = some b) w9 w' → (v.ownBlock = (Value.slice a7 n7 c7).ownBlock ∨ ∃ r, v.ownBlock = some r ∧ w9.heap.size ≤ r) →
          Below w.heap.size w w' ∧ PtsO w.heap.size w' v ((ps.take (k + 1)).map (fewP odd)) := by
        intro a9 n9 c9 w9 hO9 hb9 v w' hO' hm' hv'
        have hlo := HO5.out.lo
        refine ⟨(HB.out.trans (hb9.mono HB.out.size)).trans (hm'.below (Nat.le_trans HB.out.size hb9.size) fun x hx e => by have := hlo x e; omega), xs5 ++ [((at_, dd), (a9, n9, c9))], ?_, hO', ?_⟩
        · rw [HSN.out, List.map_append, HXS5.out]
          rfl
        · refine DatG.push (HD5.out.below hb9) (HO5.out.below hb9) (hO9.sl el8.len) (fun r hr => ?_) hm' hv'
          have h1 := hO9.lo r hr
          have h2 := hO9.lt hr
          refine ⟨Nat.le_trans HB.out.size h1, h2, fun e => ?_⟩
          have := HO5.out.lt e
          omega
      have HKEY := Lib.hid key
      clear key
      cases odd with
      | false =>
        have hdd : dd = rsecB dat := by rw [HPD.out]; rfl
        rw [← hdd] at hO8
        have HO8 := Lib.hid hO8
        clear hO8 hcu hdd
        go_wp2_with (first
          | ((with_reducible refine wpList_execW (exec_buildSliceA (k := 2) (cells := #[.int .i64 at_, .slice a8 n8 c8]) Tryz.underlying37 (by kernel_rfl) (by omega) (by omega) rfl ?_) ?_ ?_); rfl; rfl; go_frame)
          | ((with_reducible refine wpList_append1Y elPt (HO5.out.below HB8.out) ((at_, dd), (a8, n8, c8)) hol ?_ ?_ ?_ ?_); rfl; rfl; rfl; (intro v9 w9 hO9 hm9 hv9; have HR := Lib.hid (HKEY.out a8 n8 c8 w8 HO8.out HB8.out v9 w9 hO9 hm9 hv9); clear hO9 hm9 hv9); go_frame)
          | fail)
        have hr := HR.out
        go_roundw
        case rel => exact ⟨k + 1, by omega, by omega, by go_num, hr.1, hr.2⟩
        case measure => simp [intOf]; omega
      | true =>
        have hdd : dd = dat.take 130 := by rw [HPD.out]; rfl
        clear hO8
        go_wp2_with fail
        refine hcu.mono ?_
        rintro e w9 ⟨v9, rfl, h9, hw⟩
        obtain rfl := hw.symm
        clear hw hcu
        have hcp := rcopy_any w8 _ _ h9 (by simp; omega)
        rw [← hdd] at hcp
        clear h9 hdd
        go_wp2_with fail
        refine hcp.mono ?_
        rintro e w9 ⟨v9, rfl, hO9, hb9⟩
        obtain ⟨a9, n9, c9, rfl⟩ := LOut.shape hO9
        clear hcp
        have q0 : w9.cell? ⟨b, off + k * 2, none⟩ = some (.int .i64 at_) := (hb9.cell (p := ⟨b, off + k * 2, none⟩) hbr8).trans q0'
        have HO9 := Lib.hid (hO9.mono HB8.out.size)
        have HB9 := Lib.hid (HB8.out.trans (hb9.mono HB8.out.size))
        clear q0' q1' hO9 hb9
        go_wp2_with (first
          | ((with_reducible refine wpList_execW (exec_buildSliceA (k := 2) (cells := #[.int .i64 at_, .slice a9 n9 c9]) Tryz.underlying37 (by kernel_rfl) (by omega) (by omega) rfl ?_) ?_ ?_); rfl; rfl; go_frame)
          | ((with_reducible refine wpList_append1Y elPt (HO5.out.below HB9.out) ((at_, dd), (a9, n9, c9)) hol ?_ ?_ ?_ ?_); rfl; rfl; rfl; (intro v10 w10 hO10 hm10 hv10; have HR := Lib.hid (HKEY.out a9 n9 c9 w9 HO9.out HB9.out v10 w10 hO10 hm10 hv10); clear hO10 hm10 hv10); go_frame)
          | fail)
        have hr := HR.out
        go_roundw
        case rel => exact ⟨k + 1, by omega, by omega, by go_num, hr.1, hr.2⟩
        case measure => simp [intOf]; omega
    · have hfin : (ps.take k).map (fewP odd) = fewB ps n odd := by
        unfold fewB
        congr 1
        by_cases h : k < ps.length
        · rw [show k = n by omega]
        · rw [List.take_of_length_le (by omega), List.take_of_length_le (by omega)]
      obtain ⟨a7, n7, c7, rfl⟩ := hO.shape
      rw [hfin] at hO
      have HO := Lib.hid hO
      have HB := Lib.hid hb
      clear hO hb hfin
      by_cases h1 : k < ps.length
      · have hd1 : decide (k < ps.length) = true := by simp [h1]
        have hd2 : decide (k < n) = false := by simp; omega
        go_wp2
        go_ret
        exact ⟨_, rfl, HO.out, HB.out⟩
      · have hd1 : decide (k < ps.length) = false := by simp; omega
        go_wp2
        go_ret
        exact ⟨_, rfl, HO.out, HB.out⟩
end Go.Proofs.YtmakpbjknklpiaaGreat

/- A new disk's log, in plain words. -/
namespace Go.Proofs.YtmakpbjknklpiaaGreat
open Go.RowKit Go.Tn Go.Tn.Bt Go.Tn.Lp Go.Tn.Dk
theorem newd_get {k i : Nat} (hi : i < k) : (newD k).get i = zeroS := by
  unfold Dsk.get newD seenQ
  simp [hi]
set_option maxRecDepth 100000 in
theorem ends_zero : endsB zeroS = (0, 0) := by decide +kernel
set_option maxRecDepth 100000 in
theorem unseal_zero0 : (unsealB zeroS).map (fun p => (p.ep, p.ct, p.fi, p.la, p.da)) = some (0, 0, false, false, []) := by decide +kernel
theorem unseal_zero : unsealB zeroS = some ⟨0, 0, false, false, []⟩ := by
  have h := unseal_zero0
  cases hu : unsealB zeroS with
  | none => rw [hu] at h; cases h
  | some p =>
    rw [hu] at h
    obtain ⟨a, b, c, d, e⟩ := p
    simp at h
    obtain ⟨rfl, rfl, rfl, rfl, rfl⟩ := h
    rfl
theorem newest_zero (k : Nat) : ∀ j, j ≤ k → newestB (newD k) j = 0
  | 0, _ => rfl
  | j + 1, h => by
    unfold newestB
    rw [newest_zero k j (by omega), newd_get (by omega), ends_zero]
    rfl
theorem hd_zero (i : Nat) : hdB zeroS i = none := by
  unfold hdB
  rw [unseal_zero]
  simp [headP]
theorem head_zero {k a : Nat} (h : a + 1 < k) : (newD k).head a = none := by
  unfold Dsk.head
  rw [newd_get (by omega), newd_get h, hd_zero, hd_zero]
  rfl
theorem rec_zero {k n ep g f : Nat} (hn : 2 ≤ n) (hk : n + 3 ≤ k) : (log0 n ep g 0).recordB (newD k) f = [] := by
  have hp : pieceB (newD k) n 0 = some ⟨0, 0, false, false, []⟩ := by
    unfold pieceB
    rw [Nat.zero_mod, newd_get (by omega), unseal_zero]
    rfl
  unfold Lg.recordB
  have hfr : (log0 n ep g 0).free = (n - 1) + 1 := by
    show n - (0 - 0) = _
    omega
  rw [hfr]
  show recGo (newD k) n 0 f (n - 1 + 1) [] = []
  unfold recGo
  rw [show 0 + ([] : List Pc).length = 0 from rfl, hp]
  simp
theorem open_new {k n : Nat} (hn : 2 ≤ n) (hk : n + 3 ≤ k) : openB (newD k) n = some (log0 n 1 0 0) := by
  unfold openB
  rw [newest_zero k (2 + n) (by omega), if_neg (by omega), head_zero (by omega)]
  simp only [Option.getD_none, Option.isSome_none]
  unfold replayL
  have hh : hd0.gen = 0 ∧ hd0.tail = 0 := ⟨rfl, rfl⟩
  rw [hh.1, hh.2, if_neg (by decide)]
  unfold replayGo
  rw [rec_zero hn hk]
  rfl
end Go.Proofs.YtmakpbjknklpiaaGreat

/- The document's Bits, Of, Bytes, Record: walked. -/
namespace Go.Proofs.YtmakpbjknklpiaaGreat
open Go.RowKit Go.Tn Go.Tn.Bt Go.Tn.Lp Go.Tn.Dk
/-- Bits as numbers. -/
def b01 (l : List Bool) : List Nat := l.map Bool.toNat
theorem bitsN_get (x : Nat) : ∀ (n k : Nat), k < n → (bitsN x n)[k]? = some (x.testBit (n - 1 - k))
  | n + 1, 0, _ => by simp [bitsN]
  | n + 1, k + 1, h => by
    have := bitsN_get x n k (by omega)
    simp only [bitsN, List.getElem?_cons_succ, this]
    rw [show n + 1 - 1 - (k + 1) = n - 1 - k by omega]
set_option maxRecDepth 20000 in
theorem rbits_any (w : World) (x n : Nat) (hx : x < 2 ^ 64) (hn : n ≤ 64) : Calls Tryz.prog 88 #[.int .u64 x, .int .i64 n] w
    fun e w' => ∃ v', e = .returned v' ∧ LOut en8 1 5 w.heap.size w' v' (b01 (bitsN x n)) ∧ Below w.heap.size w w' := by
  have hn63 : (n : Int) ≤ 64 := by omega
  go_enter Tryz.func88, Tryz.ntmps88
  go_wp2
  go_loopw [5, 6] (fun ov iv wi => ∃ k : Nat, k ≤ n ∧ iv = .int .i64 ((n : Int) - 1 - k) ∧ LOut en8 1 5 w.heap.size wi ov (b01 ((bitsN x n).take k)) ∧ Below w.heap.size w wi) (fun _ iv _ => (intOf iv + 1).toNat)
  case atStart => exact ⟨0, Nat.zero_le _, by simp, LOut.nil (Nat.le_refl _), Below.refl _ _⟩
  case round =>
    obtain ⟨k, hk, rfl, hO, hb⟩ := hrel
    by_cases hlt : k < n
    · have hd1 : decide ((0 : Int) ≤ (n : Int) - 1 - k) = true := by simp; omega
      have hsn : b01 ((bitsN x n).take (k + 1)) = b01 ((bitsN x n).take k) ++ [(x.testBit (n - 1 - k)).toNat] := by
        unfold b01
        rw [take_snoc (bitsN_get x n k hlt), List.map_append]
        rfl
      have HSN := Lib.hid hsn
      obtain ⟨ls, hls⟩ : ∃ ls, b01 ((bitsN x n).take k) = ls := ⟨_, rfl⟩
      rw [hls] at hO HSN
      have hll : ls.length = k := by rw [← hls]; unfold b01; rw [List.length_map, List.length_take, bitsN_len]; omega
      obtain ⟨a5, n5, c5, rfl⟩ := LOut.shape hO
      have hi0 : (0 : Int) ≤ (n : Int) - 1 - k := by omega
      have hi1 : (n : Int) - 1 - k ≤ 63 := by omega
      obtain ⟨i, hi⟩ : ∃ i : Nat, (n : Int) - 1 - k = i := ⟨n - 1 - k, by omega⟩
      rw [hi] at hi0 hi1 hd1 ⊢
      have hik : n - 1 - k = i := by omega
      rw [hik] at HSN
      have hbit : bits .and .u64 ((x : Int) / 2 ^ i) 1 = (((x.testBit i).toNat : Nat) : Int) := by
        have h0 : ((x : Int) / 2 ^ i) = ((x / 2 ^ i : Nat) : Int) := by simp
        have h := Bits.bits_and (x / 2 ^ i) 1 (Nat.lt_of_le_of_lt (Nat.div_le_self _ _) hx) (by decide)
        rw [h0]
        refine h.trans ?_
        rw [Nat.and_one_is_mod, Nat.testBit_eq_decide_div_mod_eq]
        have := Nat.mod_lt (x / 2 ^ i) (show 0 < 2 by decide)
        by_cases h1 : x / 2 ^ i % 2 = 1
        · simp [h1]
        · have : x / 2 ^ i % 2 = 0 := by omega
          simp [this]
      have hb1 : (x.testBit i).toNat ≤ 1 := by cases x.testBit i <;> decide
      generalize (x.testBit i).toNat = c at *
      have hb2 : (c : Int) ≤ 1 := by omega
      have hb3 : (c : Int) % 256 = (c : Int) := by omega
      have HO := Lib.hid hO
      have HB := Lib.hid hb
      have HI := Lib.hid hi
      have hml : ls.length ≤ 1000 := by omega
      clear hO hb hls hll hsn hi hik
      go_wp2_with (first
        | ((with_reducible refine wpList_append1 el8 HO.out c hml ?_ ?_ ?_ ?_); rfl; rfl; rfl; (intro v7 w7 hO7 hb7; have HO7 := Lib.hid hO7; have HB7 := Lib.hid hb7; clear hO7 hb7); go_frame)
        | fail)
      have hi := HI.out
      go_roundw
      case rel =>
        refine ⟨k + 1, by omega, ?_, ?_, HB.out.trans HB7.out⟩
        · congr 1
          omega
        · rw [HSN.out]
          exact HO7.out
      case measure => simp [intOf]
    · obtain rfl : k = n := by omega
      have hd1 : decide ((0 : Int) ≤ (k : Int) - 1 - k) = false := by simp; omega
      rw [List.take_of_length_le (by rw [bitsN_len]; exact Nat.le_refl _)] at hO
      have hm1 : (k : Int) - 1 - k = -1 := by omega
      rw [hm1] at hd1 ⊢
      obtain ⟨a5, n5, c5, rfl⟩ := LOut.shape hO
      have HO := Lib.hid hO
      have HB := Lib.hid hb
      clear hO hb
      go_wp2
      go_ret
      exact ⟨_, rfl, HO.out, HB.out⟩
theorem b01_append (a b : List Bool) : b01 (a ++ b) = b01 a ++ b01 b := List.map_append
theorem b01_len (a : List Bool) : (b01 a).length = a.length := List.length_map ..
set_option maxRecDepth 20000 in
theorem rof_any (w : World) (v : Value) (bs : List Nat) (h : LSl en8 1 w v bs) (hb8 : ∀ x ∈ bs, x < 256) (hl : bs.length ≤ 10000) : Calls Tryz.prog 77 #[v] w
    fun e w' => ∃ v', e = .returned v' ∧ LOut en8 1 5 w.heap.size w' v' (b01 (unpack bs)) ∧ Below w.heap.size w w' := by
  obtain ⟨ao, cap, rfl, h1, h2, h3⟩ := h
  unfold maxLen at h2
  have hl63 : (bs.length : Int) ≤ 10000 := by omega
  have HB8 := Lib.hid hb8
  clear hb8
  go_enter Tryz.func77, Tryz.ntmps77
  go_wp2
  go_loopw [3, 4] (fun ov iv wi => ∃ k : Nat, k ≤ bs.length ∧ iv = .int .i64 k ∧ LOut en8 1 5 w.heap.size wi ov (b01 (unpack (bs.take k))) ∧ Below w.heap.size w wi) (fun _ iv _ => bs.length - (intOf iv).toNat)
  case atStart => exact ⟨0, Nat.zero_le _, rfl, LOut.nil (Nat.le_refl _), Below.refl _ _⟩
  case round =>
    obtain ⟨k, hk, rfl, hO, hb⟩ := hrel
    by_cases hlt : k < bs.length
    · have hd1 : decide (k < bs.length) = true := by simp [hlt]
      obtain ⟨b, off, rfl, hbl, hcells⟩ := h3 (by omega)
      have hx : bs[k]? = some bs[k] := List.getElem?_eq_getElem hlt
      have hx8 : bs[k] < 256 := HB8.out _ (List.getElem_mem hlt)
      have q0 := (hcells k _ hx).below' hb hbl 0 (by simp)
      have hsn : b01 (unpack (bs.take (k + 1))) = b01 (unpack (bs.take k)) ++ b01 (bitsN bs[k] 8) := by
        rw [take_snoc hx, unpack_append, b01_append]
        simp [unpack]
      generalize bs[k] = x at *
      simp only [Nat.mul_one, Nat.add_zero] at q0
      have q0 : wr.cell? ⟨b, off + k, none⟩ = some (.int .u8 x) := q0
      have hx63 : (x : Int) ≤ 255 := by omega
      have hx64 : (x : Int) % 18446744073709551616 = (x : Int) := by omega
      have HSN := Lib.hid hsn
      obtain ⟨ls, hls⟩ : ∃ ls, b01 (unpack (bs.take k)) = ls := ⟨_, rfl⟩
      rw [hls] at hO HSN
      have hll : ls.length + (b01 (bitsN x 8)).length ≤ 100000 := by rw [← hls, b01_len, b01_len, unpack_len, bitsN_len, List.length_take]; omega
      obtain ⟨a3, n3, c3, rfl⟩ := LOut.shape hO
      have hbt := rbits_any wr x 8 (by omega) (by omega)
      rw [show ((8 : Nat) : Int) = 8 from rfl] at hbt
      have HO := Lib.hid hO
      have HB := Lib.hid hb
      clear hO hb hls hsn hx hcells
      go_wp2_with fail
      refine hbt.mono ?_
      rintro e w2 ⟨v2, rfl, hO2, hb2⟩
      obtain ⟨a2, n2, c2, rfl⟩ := LOut.shape hO2
      have HO2 := Lib.hid hO2
      have HB2 := Lib.hid hb2
      clear hO2 hb2 hbt q0
      go_wp2_with (first
        | ((with_reducible refine wpList_appendN el8 (HO.out.below HB2.out) (HO2.out.sl el8.len) hll ?_ ?_ ?_); rfl; rfl; (intro v5 w5 hO5 hg5 hl5; have HO5 := Lib.hid hO5; have HG5 := Lib.hid hg5; clear hO5 hg5 hl5); go_frame)
        | fail)
      go_roundw
      case rel =>
        refine ⟨k + 1, by omega, by go_num, by rw [HSN.out]; exact HO5.out, ?_⟩
        exact (HB.out.trans (HB2.out.mono HB.out.size)).grown HG5.out (Nat.le_trans HB.out.size HB2.out.size) (HO.out.lo)
      case measure => simp [intOf]; omega
    · obtain rfl : k = bs.length := by omega
      have hd1 : decide (bs.length < bs.length) = false := by simp
      rw [List.take_length] at hO
      obtain ⟨a3, n3, c3, rfl⟩ := LOut.shape hO
      have HO := Lib.hid hO
      have HB := Lib.hid hb
      clear hO hb
      go_wp2
      go_ret
      exact ⟨_, rfl, HO.out, HB.out⟩
end Go.Proofs.YtmakpbjknklpiaaGreat

/- The document's Bytes: walked. -/
namespace Go.Tn.Bt
/-- The bytes that bits make, the last one as far as it is. -/
def rawB (l : List Bool) : List Nat := pack (l.take (8 * (l.length / 8))) ++ (if l.length % 8 = 0 then [] else [natOf (l.drop (8 * (l.length / 8)))])
theorem rawB_eq {a t : List Bool} {q : Nat} (ha : a.length = 8 * q) (h1 : 1 ≤ t.length) (h2 : t.length ≤ 8) : rawB (a ++ t) = pack a ++ [natOf t] := by
  unfold rawB
  rw [List.length_append, ha]
  by_cases h8 : t.length = 8
  · rw [if_pos (by omega), show (8 * q + t.length) / 8 = q + 1 by omega, List.take_of_length_le (by rw [List.length_append]; omega), pack_append t ha, pack_small h1 h2, List.append_nil]
    unfold byteOf
    rw [h8]
    simp
  · rw [if_neg (by omega), show (8 * q + t.length) / 8 = q by omega, List.take_append_of_le_length (by omega), List.take_of_length_le (by omega), List.drop_append_of_le_length (by omega), List.drop_eq_nil_of_le (by omega), List.nil_append]
theorem rawB_whole {a : List Bool} {q : Nat} (ha : a.length = 8 * q) : rawB a = pack a := by
  unfold rawB
  rw [ha, if_pos (by omega), List.take_of_length_le (by omega), List.append_nil]
theorem rawB_len (l : List Bool) : (rawB l).length = (l.length + 7) / 8 := by
  unfold rawB
  rw [List.length_append, pack_len, List.length_take]
  split
  · simp; omega
  · simp; omega
/-- One bit more. -/
theorem rawB_snoc (l : List Bool) (b : Bool) : ∃ (A : List Nat) (x : Nat), (if l.length % 8 = 0 then rawB l ++ [0] else rawB l) = A ++ [x] ∧ x * 2 + b.toNat < 256 ∧ rawB (l ++ [b]) = A ++ [x * 2 + b.toNat] := by
  obtain ⟨a, t, rfl, ha, ht⟩ := split8 l
  have hmod := Nat.mod_lt (a ++ t).length (show 0 < 8 by decide)
  generalize (a ++ t).length / 8 = q at ha
  rw [← ht] at hmod ⊢
  have hb : b.toNat ≤ 1 := by cases b <;> decide
  rw [List.append_assoc]
  by_cases h0 : t.length = 0
  · have : t = [] := List.eq_nil_of_length_eq_zero h0
    subst this
    rw [if_pos h0, List.append_nil, List.nil_append, rawB_whole ha, rawB_eq ha (by simp) (by simp)]
    exact ⟨pack a, 0, rfl, by omega, by simp [natOf]⟩
  · rw [if_neg h0, rawB_eq ha (by omega) (by omega), rawB_eq ha (by simp) (by simp; omega)]
    have hlt := natOf_lt t
    have h128 : natOf t < 128 := Nat.lt_of_lt_of_le hlt (by
      have := Nat.pow_le_pow_right (n := 2) (by decide) (show t.length ≤ 7 by omega)
      simpa using this)
    refine ⟨pack a, natOf t, rfl, by omega, ?_⟩
    rw [natOf_append]
    simp [natOf]
/-- The last byte filled. -/
theorem pack_raw (l : List Bool) (h : l.length % 8 ≠ 0) : ∃ (A : List Nat) (c : Nat), rawB l = A ++ [c] ∧ c < 2 ^ (l.length % 8) ∧ pack l = A ++ [c * 2 ^ (8 - l.length % 8)] := by
  obtain ⟨a, t, rfl, ha, ht⟩ := split8 l
  have hmod := Nat.mod_lt (a ++ t).length (show 0 < 8 by decide)
  generalize (a ++ t).length / 8 = q at ha
  rw [← ht] at hmod h ⊢
  rw [rawB_eq ha (by omega) (by omega), pack_append t ha, pack_small (l := t) (by omega) (by omega)]
  exact ⟨pack a, natOf t, rfl, natOf_lt t, rfl⟩
end Go.Tn.Bt
namespace Go.Proofs.YtmakpbjknklpiaaGreat
open Go.RowKit Go.Tn Go.Tn.Bt Go.Tn.Lp Go.Tn.Dk
theorem b01_get {l : List Bool} {k : Nat} {b : Bool} (h : l[k]? = some b) : (b01 l)[k]? = some b.toNat := by
  unfold b01
  rw [List.getElem?_map, h]
  rfl
theorem set_last (A : List Nat) (x y : Nat) : (A ++ [x]).set A.length y = A ++ [y] := by
  rw [List.set_append_right _ _ (Nat.le_refl _), Nat.sub_self]
  rfl
set_option maxRecDepth 20000 in
set_option maxHeartbeats 4000000 in
theorem rbytes_any (w : World) (v : Value) (l : List Bool) (h : LSl en8 1 w v (b01 l)) (hl : l.length ≤ 80000) : Calls Tryz.prog 89 #[v] w
    fun e w' => ∃ v', e = .returned v' ∧ LOut en8 1 5 w.heap.size w' v' (pack l) ∧ Below w.heap.size w w' := by
  obtain ⟨ao, cap, rfl, h1, h2, h3⟩ := h
  rw [b01_len] at h1 h3 ⊢
  unfold maxLen at h2
  have hl63 : (l.length : Int) ≤ 80000 := by omega
  go_enter Tryz.func89, Tryz.ntmps89
  go_wp2
  go_loopw [3, 4, 5] (fun ov iv _ wi => ∃ k : Nat, k ≤ l.length ∧ iv = .int .i64 k ∧ LOut en8 1 5 w.heap.size wi ov (rawB (l.take k)) ∧ Below w.heap.size w wi) (fun _ iv _ _ => l.length - (intOf iv).toNat)
  case atStart => exact ⟨0, Nat.zero_le _, rfl, (by rw [List.take_zero, show rawB [] = [] from rfl]; exact LOut.nil (Nat.le_refl _)), Below.refl _ _⟩
  case round =>
    obtain ⟨k, hk, rfl, hO, hb⟩ := hrel
    have hk63 : (k : Int) ≤ 80000 := by omega
    by_cases hlt : k < l.length
    · have hd1 : decide (k < l.length) = true := by simp [hlt]
      have hx : l[k]? = some l[k] := List.getElem?_eq_getElem hlt
      generalize l[k] = bt at hx
      have hsn := take_snoc hx
      obtain ⟨A, x, hA, hx2, hnew⟩ := rawB_snoc (l.take k) bt
      rw [← hsn] at hnew
      obtain ⟨b, off, rfl, hbl, hcells⟩ := h3 (by omega)
      have hxc := b01_get hx
      have hlk : (l.take k).length = k := by rw [List.length_take]; omega
      rw [hlk] at hA
      have hAl : (A ++ [x]).length ≤ 10002 := by
        rw [← hA]
        split
        · rw [List.length_append, rawB_len, hlk]; simp; omega
        · rw [rawB_len, hlk]; omega
      have hbt1 : bt.toNat ≤ 1 := by cases bt <;> decide
      generalize bt.toNat = c at *
      obtain ⟨a3, n3, c3, rfl⟩ := LOut.shape hO
      have hm8 : (k : Int) % 8 = ((k % 8 : Nat) : Int) := by omega
      have hblo : b < w.heap.size := hbl
      have hx255 : (x : Int) * 2 + c ≤ 255 := by omega
      have hx0 : (0 : Int) ≤ (x : Int) := by omega
      have hA63 : (A.length : Int) ≤ 10002 := by simp at hAl; omega
      have HN := Lib.hid hnew
      have HB := Lib.hid hb
      -- the rest, wherever the bytes lie
      have key : ∀ (W : World) (r n cc : Nat) , LOut en8 1 5 w.heap.size W (.slice (some ⟨r, 0, none⟩) n cc) (A ++ [x]) → Below w.heap.size w W → n = A.length + 1 →
          LOut en8 1 5 w.heap.size (W.drew.setCell ⟨r, A.length, none⟩ (.int .u8 ((x * 2 + c : Nat) : Int))) (.slice (some ⟨r, 0, none⟩) n cc) (rawB (l.take (k + 1))) ∧ Below w.heap.size w (W.drew.setCell ⟨r, A.length, none⟩ (.int .u8 ((x * 2 + c : Nat) : Int))) ∧
          W.drew.cell? ⟨r, A.length, none⟩ = some (.int .u8 (x : Nat)) ∧ W.drew.cell? ⟨b, off + k, none⟩ = some (.int .u8 (c : Nat)) ∧ W.drew.frozen? ⟨r, A.length, none⟩ = false := by
        intro W r n cc hOW hbW hn
        have hi : (A ++ [x])[A.length]? = some x := by simp
        have h := LOut.set el8.len (hOW.below (Below.refl _ W).drew) (i := A.length) (j := 0) (y := x * 2 + c) (u := .int .u8 ((x * 2 + c : Nat) : Int)) hi (by decide) rfl
        rw [set_last, ← HN.out] at h
        simp only [Nat.mul_one, Nat.add_zero, Nat.zero_add] at h
        have hr := hOW.lo r rfl
        refine ⟨h, hbW.drew.setCell hr _, ?_, ?_, hOW.frozen _⟩
        · have := (hOW.lies el8.len hi) 0 (by simp)
          simpa using this
        · have := (hcells k _ hxc).below' hbW hblo 0 (by simp)
          simpa using this
      have HK := Lib.hid key
      have HW1 : Hid (IntKind.u8.wrap ((x : Int) * 2) = (x : Int) * 2) := Lib.hid (IntWalk.u8_in _ (by omega))
      have HW2 : Hid (IntKind.u8.wrap ((x : Int) * 2 + c) = ((x * 2 + c : Nat) : Int)) := Lib.hid (by rw [IntWalk.u8_in _ (by omega)]; omega)
      have hAA : (A.length : Int) < (A.length : Int) + 1 := by omega
      have hkl : (k : Int) < (l.length : Int) := by omega
      clear key hnew hb hcells hx hsn hxc
      by_cases h0 : k % 8 = 0
      · rw [if_pos h0] at hA
        have hd2 : ((k : Int) % 8 == 0) = true := by rw [hm8, h0]; rfl
        have hml : (rawB (l.take k)).length ≤ 100000 := by rw [rawB_len, hlk]; omega
        have HO := Lib.hid hO
        have HA := Lib.hid hA
        clear hO hA hlk h0 hm8
        go_wp2_with (first
          | ((with_reducible refine wpList_append1X el8 HO.out 0 (by have := hml; omega) ?_ ?_ ?_ ?_); rfl; rfl; rfl; (intro v7 w7 hO7 hb7; rw [HA.out] at hO7; obtain ⟨r7, c7, rfl, -⟩ := LOut.last (m := A.length) hO7 (by simp) (List.getElem?_concat_length); have HO7 := Lib.hid hO7; have HB7 := Lib.hid (HB.out.trans hb7); clear hO7 hb7); go_frame)
          | fail)
        have hk7 := HK.out w7 r7 (A.length + 1) c7 HO7.out HB7.out rfl
        obtain ⟨z1, z2, hS1, hS2, hf⟩ := hk7
        have Z1 := Lib.hid z1
        have Z2 := Lib.hid z2
        have hS := And.intro hS1 hS2
        clear z1 z2 hS1 hS2
        refine wp_region_x (fun w' => w'.cell? ⟨r7, A.length, none⟩ = some (.int .u8 (x : Nat)) ∧ w'.cell? ⟨b, off + k, none⟩ = some (.int .u8 (c : Nat))) [(0, 1), (1, 1), (2, 1), (3, 1), (4, 1), (5, 0), (6, 1), (7, 1), (8, 1), (9, 1), (10, 0), (11, 1), (12, 1), (13, 3)] (by kernel_rfl) (by kernel_rfl) (by intro d v c a w h; cases d <;> exact h) ?_
        iterate 5 (refine x_take rfl (fun K hK => ?_); go_simp; refine hK _ ?_; clear hK K)
        refine x_read rfl hS (fun w' h => exec_load1 ⟨⟨_, Tryz.underlying5, rfl⟩⟩ rfl h.1) ?_
        iterate 4 (refine x_take rfl (fun K hK => ?_); go_simp; refine hK _ ?_; clear hK K)
        refine x_read rfl hS (fun w' h => exec_load1 ⟨⟨_, Tryz.underlying5, rfl⟩⟩ rfl h.2) ?_
        iterate 2 (refine x_take rfl (fun K hK => ?_); go_simp; refine hK _ ?_; clear hK K)
        rw [HW1.out, HW2.out]
        refine x_skip rfl (exec_store1 (v := .int .u8 ((x * 2 + c : Nat) : Int)) ⟨⟨_, Tryz.underlying5, rfl⟩⟩ (by kernel_rfl) rfl rfl rfl hS.1 hf) ?_
        refine x_nil ?_
        clear hS hf
        go_wp2
        go_roundw
        case rel => exact ⟨k + 1, by omega, by go_num, Z1.out, Z2.out⟩
        case measure => simp [intOf]; omega
      · rw [if_neg h0] at hA
        have hd2 : ((k : Int) % 8 == 0) = false := by rw [hm8]; exact beq_eq_false_iff_ne.2 (by omega)
        rw [hA] at hO
        obtain ⟨r7, c7, hv7, -⟩ := LOut.last (m := A.length) hO (by simp) (List.getElem?_concat_length)
        obtain ⟨rfl, rfl, rfl⟩ : a3 = some ⟨r7, 0, none⟩ ∧ n3 = A.length + 1 ∧ c3 = c7 := by simpa using hv7
        have hk7 := HK.out wr r7 (A.length + 1) c3 hO HB.out rfl
        obtain ⟨z1, z2, hS1, hS2, hf⟩ := hk7
        have Z1 := Lib.hid z1
        have Z2 := Lib.hid z2
        have hS := And.intro hS1 hS2
        clear z1 z2 hS1 hS2 hO hA hv7 hlk h0 hm8
        go_wp2_with fail
        refine wp_region_x (fun w' => w'.cell? ⟨r7, A.length, none⟩ = some (.int .u8 (x : Nat)) ∧ w'.cell? ⟨b, off + k, none⟩ = some (.int .u8 (c : Nat))) [(0, 1), (1, 1), (2, 1), (3, 1), (4, 1), (5, 0), (6, 1), (7, 1), (8, 1), (9, 1), (10, 0), (11, 1), (12, 1), (13, 3)] (by kernel_rfl) (by kernel_rfl) (by intro d v c a w h; cases d <;> exact h) ?_
        iterate 5 (refine x_take rfl (fun K hK => ?_); go_simp; refine hK _ ?_; clear hK K)
        refine x_read rfl hS (fun w' h => exec_load1 ⟨⟨_, Tryz.underlying5, rfl⟩⟩ rfl h.1) ?_
        iterate 4 (refine x_take rfl (fun K hK => ?_); go_simp; refine hK _ ?_; clear hK K)
        refine x_read rfl hS (fun w' h => exec_load1 ⟨⟨_, Tryz.underlying5, rfl⟩⟩ rfl h.2) ?_
        iterate 2 (refine x_take rfl (fun K hK => ?_); go_simp; refine hK _ ?_; clear hK K)
        rw [HW1.out, HW2.out]
        refine x_skip rfl (exec_store1 (v := .int .u8 ((x * 2 + c : Nat) : Int)) ⟨⟨_, Tryz.underlying5, rfl⟩⟩ (by kernel_rfl) rfl rfl rfl hS.1 hf) ?_
        refine x_nil ?_
        clear hS hf
        go_wp2
        go_roundw
        case rel => exact ⟨k + 1, by omega, by go_num, Z1.out, Z2.out⟩
        case measure => simp [intOf]; omega
    · obtain rfl : k = l.length := by omega
      have hd1 : decide (l.length < l.length) = false := by simp
      rw [List.take_length] at hO
      have hm8 : (l.length : Int) % 8 = ((l.length % 8 : Nat) : Int) := by omega
      have hlt8 := Nat.mod_lt l.length (show 0 < 8 by decide)
      by_cases h0 : l.length % 8 = 0
      · have hd2 : ((l.length : Int) % 8 != 0) = false := by rw [hm8, h0]; rfl
        have hr : rawB l = pack l := rawB_whole (q := l.length / 8) (by omega)
        rw [hr] at hO
        obtain ⟨a3, n3, c3, rfl⟩ := LOut.shape hO
        have HO := Lib.hid hO
        have HB := Lib.hid hb
        clear hO hb hr hm8 h0
        go_wp2
        go_loop [6] (fun iv => iv = .int .i64 l.length) (fun _ => 0)
        case atStart => rfl
        case round =>
          subst hrel
          go_wp2
          go_ret
          exact ⟨_, rfl, HO.out, HB.out⟩
      · obtain ⟨A, c, hA, hc, hP⟩ := pack_raw l h0
        generalize hr : l.length % 8 = r at *
        rw [hA] at hO
        have hAl : A.length ≤ 10001 := by
          have := congrArg List.length hA
          rw [rawB_len, List.length_append, List.length_singleton] at this
          omega
        obtain ⟨r7, c7, rfl, -⟩ := LOut.last (m := A.length) hO (by simp) (List.getElem?_concat_length)
        have HO := Lib.hid hO
        have HB := Lib.hid hb
        have HP := Lib.hid hP
        have HC := Lib.hid hc
        have HR := Lib.hid hr
        have HM := Lib.hid hm8
        have hAA : (A.length : Int) < (A.length : Int) + 1 := by omega
        have hA63 : (A.length : Int) ≤ 10001 := by omega
        clear hO hb hA hP hc hr hm8
        go_wp2
        go_loopw [6, 7] (fun iv _ wi => ∃ j : Nat, j ≤ 8 - r ∧ iv = .int .i64 ((l.length + j : Nat) : Int) ∧ LOut en8 1 5 w.heap.size wi (.slice (some ⟨r7, 0, none⟩) (A.length + 1) c7) (A ++ [c * 2 ^ j]) ∧ Below w.heap.size w wi) (fun iv _ _ => l.length + 8 - (intOf iv).toNat)
        case atStart => exact ⟨0, by omega, by simp, by simpa using HO.out, HB.out⟩
        case round =>
          obtain ⟨j, hj, rfl, hO, hb⟩ := hrel
          have hmj : ((l.length + j : Nat) : Int) % 8 = ((r + j : Nat) : Int) % 8 := by have := HR.out; omega
          have hi63 : ((l.length + j : Nat) : Int) ≤ 80010 := by omega
          by_cases hj8 : j < 8 - r
          · have hd2 : (((l.length + j : Nat) : Int) % 8 != 0) = true := by rw [hmj, bne_iff_ne]; omega
            have hlt : c * 2 ^ j < 128 := by
              have h1 : c * 2 ^ j < 2 ^ r * 2 ^ j := (Nat.mul_lt_mul_right (Nat.two_pow_pos _)).2 HC.out
              rw [← Nat.pow_add] at h1
              have h2 := Nat.pow_le_pow_right (n := 2) (by decide) (show r + j ≤ 7 by omega)
              omega
            have hnx : c * 2 ^ (j + 1) = c * 2 ^ j * 2 := by rw [Nat.pow_succ, Nat.mul_assoc]
            generalize c * 2 ^ j = y at *
            have hi : (A ++ [y])[A.length]? = some y := by simp
            have h := LOut.set el8.len hO (i := A.length) (j := 0) (y := y * 2) (u := .int .u8 ((y : Int) * 2)) hi (by decide) (by simp)
            rw [set_last] at h
            simp only [Nat.mul_one, Nat.add_zero, Nat.zero_add] at h
            have hb2 := hb.setCell (p := ⟨r7, A.length, none⟩) (hO.lo r7 rfl) (.int .u8 ((y : Int) * 2))
            have q0 := (hO.lies el8.len hi) 0 (by simp)
            simp only [Nat.mul_one, Nat.add_zero] at q0
            have q0 : wr.cell? ⟨r7, A.length, none⟩ = some (.int .u8 (y : Nat)) := q0
            have hf := hO.frozen A.length
            have hy255 : (y : Int) * 2 ≤ 255 := by omega
            have hy0 : (0 : Int) ≤ (y : Int) := by omega
            obtain ⟨ij, hij⟩ : ∃ ij, l.length + j = ij := ⟨_, rfl⟩
            rw [hij] at hmj hi63 hd2 ⊢
            have HH := Lib.hid h
            have HB2 := Lib.hid hb2
            have HNX := Lib.hid hnx
            have HIJ := Lib.hid hij
            clear hO hb hi h hb2 hnx hij
            go_wp2
            have hij := HIJ.out
            refine ⟨⟨j + 1, by omega, ?_, ?_, HB2.out⟩, by simp [intOf]; omega⟩
            · congr 1
              omega
            · rw [HNX.out]
              exact HH.out
          · obtain rfl : j = 8 - r := by omega
            have hd2 : (((l.length + (8 - r) : Nat) : Int) % 8 != 0) = false := by rw [hmj, bne_eq_false_iff_eq]; omega
            rw [← HP.out] at hO
            have HO2 := Lib.hid hO
            have HB2 := Lib.hid hb
            clear hO hb hmj
            generalize l.length + (8 - r) = ij at *
            go_wp2
            go_ret
            exact ⟨_, rfl, HO2.out, HB2.out⟩
end Go.Proofs.YtmakpbjknklpiaaGreat
