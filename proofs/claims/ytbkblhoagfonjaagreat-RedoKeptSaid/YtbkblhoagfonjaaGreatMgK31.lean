/- RedoKept, walked: where it stands. -/
import Derived.Test.YtbkblhoagfonjaaGreatMgK23
import Derived.Test.YtbkblhoagfonjaaGreatMgK30
import Derived.Test.YtbkblhoagfonjaaGreatMgK27
/- RedoKept, walked: where it stands. -/
namespace Go.Proofs.YtbkblhoagfonjaaGreat
open Go.RowKit Go.Tn Go.Tn.Bt Go.Tn.Lp Go.Tn.Dk
theorem sizeSt : (Tryz.prog.info? 50).map (·.size) = some 1 := by kernel_rfl
/-- Where a log and its disk stand, and the states beside them. -/
structure KMem (w : World) (p size : Nat) (g : Nat) (F FD : Nat → Prop) (l : Lg) (d : Dsk) (S : List (List (List Nat))) (vs : Value) (wi : World) : Prop where
  L : LAt wi F g p l
  D : DAt wi FD p d
  apart : ∀ b, F b → ¬ FD b
  low : ∀ b, F b ∨ FD b → w.heap.size ≤ b
  st : StA wi (fun b => F b ∨ FD b) vs S
  own : ∀ r, vs.ownBlock = some r → w.heap.size ≤ r
  len : d.L.length = size
  ne : S ≠ []
  small : ∀ hs ∈ S, hs.length ≤ 5000
  w : Below w.heap.size w wi
section
variable {w wi w' : World} {p size g : Nat} {F FD : Nat → Prop} {l : Lg} {d : Dsk} {S : List (List (List Nat))} {vs : Value}
theorem KMem.below (h : KMem w p size g F FD l d S vs wi) (hb : Below wi.heap.size wi w') : KMem w p size g F FD l d S vs w' :=
  ⟨h.L.below hb, h.D.below hb, h.apart, h.low, h.st.below hb fun _ hb => .inl hb, h.own, h.len, h.ne, h.small, h.w.trans (hb.mono h.w.size)⟩
theorem KMem.lt (h : KMem w p size g F FD l d S vs wi) : ∀ b, F b ∨ FD b → b < wi.heap.size := fun b hb => by
  rcases hb with hb | hb
  · exact h.L.lt b hb
  · exact h.D.lt b hb
/-- The log and the disk have turned. -/
theorem KMem.turn (h : KMem w p size g F FD l d S vs wi) {F' FD' : Nat → Prop} {l' : Lg} {d' : Dsk} (hL : LAt w' F' g p l') (hD : DAt w' FD' p d') (hm : Mod (fun b => F b ∨ FD b) wi w') (h1 : ∀ b, F' b → F b ∨ wi.heap.size ≤ b) (h2 : ∀ b, FD' b → FD b ∨ wi.heap.size ≤ b) (h3 : ∀ b, F' b → ¬ FD' b) (hl : d'.L.length = d.L.length) :
    KMem w p size g F' FD' l' d' S vs w' := by
  have hS : ∀ b, F' b ∨ FD' b → (F b ∨ FD b) ∨ wi.heap.size ≤ b := fun b hb => by
    rcases hb with hb | hb
    · exact (h1 b hb).imp .inl id
    · exact (h2 b hb).imp .inr id
  refine ⟨hL, hD, h3, fun b hb => ?_, h.st.mod hm hS, h.own, hl.trans h.len, h.ne, h.small, h.w.trans (hm.below h.w.size fun x hx hS => absurd hx (Nat.not_lt.2 (h.low x hS)))⟩
  rcases hS b hb with hb | hb
  · exact h.low b hb
  · exact Nat.le_trans h.w.size hb
/-- A state more. -/
theorem KMem.app (h : KMem w p size g F FD l d S vs wi) {v' : Value} {hs : List (List Nat)} (hst : StA w' (fun b => F b ∨ FD b) v' (S ++ [hs])) (hm : Mod (fun b => vs.ownBlock = some b) wi w') (hown : v'.ownBlock = vs.ownBlock ∨ ∃ r, v'.ownBlock = some r ∧ wi.heap.size ≤ r) (hl : hs.length ≤ 5000) :
    KMem w p size g F FD l d (S ++ [hs]) v' w' := by
  have ho : ∀ r, vs.ownBlock = some r → ¬ (F r ∨ FD r) := by obtain ⟨ys, -, -, h3, -⟩ := h.st; exact h3
  refine ⟨h.L.mod hm fun b hb e => ho b e (.inl hb), h.D.mod hm fun b hb e => ho b e (.inr hb), h.apart, h.low, hst, fun r hr => ?_, h.len, by simp, fun x hx => ?_, h.w.trans (hm.below h.w.size fun x hx hS => absurd hx (Nat.not_lt.2 (h.own x hS)))⟩
  · rcases hown with e | ⟨r', e, hr'⟩
    · exact h.own r (e ▸ hr)
    · rw [e] at hr
      cases hr
      exact Nat.le_trans h.w.size hr'
  · rcases List.mem_append.1 hx with hx | hx
    · exact h.small x hx
    · rw [List.mem_singleton.1 hx]
      exact hl
/-- The last state alone. -/
theorem KMem.cut {b off n cap : Nat} {S0 : List (List (List Nat))} {hs : List (List Nat)} (h : KMem w p size g F FD l d (S0 ++ [hs]) (.slice (some ⟨b, off, none⟩) n cap) wi) : KMem w p size g F FD l d [hs] (.slice (some ⟨b, off + S0.length, none⟩) 1 (cap - S0.length)) wi :=
  ⟨h.L, h.D, h.apart, h.low, h.st.tail, fun r hr => h.own r (by cases hr; rfl), h.len, by simp, fun x hx => h.small x (List.mem_append.2 (.inr hx)), h.w⟩
end
theorem homesB_len (l : Lg) (d : Dsk) : (homesB l d).length = l.homes d := by unfold homesB; rw [List.length_map, List.length_range]
/-- Where it stands. -/
def KIs (w : World) (p n size i : Nat) (gv vs : Value) (wi : World) : Prop := ∃ g F FD l d S, gv = .pointer (some ⟨g, 0, none⟩) ∧ KMem w p size g F FD l d S vs wi ∧ KInv n i l d S ∧ d.Q.length ≤ 5000 * i ∧ S.length ≤ i + 1
set_option maxRecDepth 20000 in
set_option maxHeartbeats 4000000 in
theorem kept_walk (w : World) (sz n : Int) (v : Value) (ds : List DoP) (hds : DosI w v ds) (hn63 : -9223372036854775808 ≤ n ∧ n < 9223372036854775808) (hs63 : -9223372036854775808 ≤ sz ∧ sz < 9223372036854775808) : Calls Tryz.prog 4 #[.int .i64 sz, .int .i64 n, v] w fun e w' => e = .returned (.bool true) ∧ Below w.heap.size w w' := by
  obtain ⟨z, hzw, hz10, hz40⟩ := within_nat sz (show 10 ≤ 40 by decide)
  have hz4 : ((z - 4 : Nat) : Int) = (z : Int) - 4 := by omega
  obtain ⟨k, hkw, hk2, hkz⟩ := within_nat n (show 2 ≤ z - 4 by omega)
  obtain ⟨a0, n0, c0, rfl⟩ : ∃ a n c, v = .slice a n c := by
    obtain ⟨xs, -, ⟨ao, cap, rfl, -⟩, -⟩ := hds
    exact ⟨_, _, _, rfl⟩
  obtain ⟨xs, hxs, hxL, hxD⟩ := hds
  have hxl : xs.length = ds.length := by rw [← hxs]; simp
  obtain ⟨ao, ca, hvv, x1, x2, x3⟩ := hxL
  obtain ⟨rfl, rfl, rfl⟩ : a0 = ao ∧ n0 = xs.length ∧ c0 = ca := by simpa using hvv
  rw [hxl] at x1 x3 ⊢
  unfold maxLen at x2
  have hb63 : (ds.length : Int) ≤ 9223372036854775807 := by omega
  have hwz := within_any w sz 10 40
  rw [show ((10 : Nat) : Int) = 10 from rfl, show ((40 : Nat) : Int) = 40 from rfl] at hzw
  rw [hzw] at hwz
  have hwn := within_any w n 2 ((z : Int) - 4)
  rw [hz4, show ((2 : Nat) : Int) = 2 from rfl] at hkw
  rw [hkw] at hwn
  have hz63 : (z : Int) ≤ 40 := by omega
  have hz0 : (10 : Int) ≤ (z : Int) := by omega
  have hnw := newd_any w z (by omega) (by omega)
  have HXS := Lib.hid hxs
  have HXD := Lib.hid hxD
  have HXL := Lib.hid hxl
  clear hkw hzw hxs hxD hxl hvv hn63 hs63
  go_enter Tryz.func4, Tryz.ntmps4
  go_wp2_with (first
    | (go_at_call 5; refine hwz.mono ?_; rintro e w2 ⟨rfl, hw⟩; obtain rfl := hw.symm; clear hw hwz)
    | (go_at_call 5; refine hwn.mono ?_; rintro e w2 ⟨rfl, hw⟩; obtain rfl := hw.symm; clear hw hwn)
    | fail)
  refine hnw.mono ?_
  rintro e w1 ⟨p, FD, rfl, hD, hb1, hF⟩
  clear hnw
  have hk3 : k + 4 ≤ z := by omega
  have ho := open_main hD k (by omega) (by simp [newD]; omega) (by omega) (by rw [newest_zero _ _ (by omega)]; decide) _ (open_new (by omega) (by omega))
  go_wp2_with fail
  refine ho.mono ?_
  rintro e w2 ⟨g, F, rfl, hL, hb2, hG⟩
  clear ho
  have hD2 := hD.below hb2
  have hFG : ∀ b, F b → ¬ FD b := fun b h1 h2 => absurd (hD.lt b h2) (Nat.not_lt.2 (hG b h1))
  have hI := kinit hk2 hk3 hz40
  have hho := lhomes_any hL hD2 (KInv.ok (.inl hI) (by decide))
  have hlow : ∀ b, F b ∨ FD b → w.heap.size ≤ b := fun b h => by
    rcases h with h | h
    · have := hG b h; have := hb1.size; omega
    · exact hF b h
  have hb02 : Below w.heap.size w w2 := hb1.trans (hb2.mono hb1.size)
  have HL := Lib.hid hL
  have HD := Lib.hid hD2
  have HFG := Lib.hid hFG
  have HLOW := Lib.hid hlow
  have HI := Lib.hid hI
  have HB2 := Lib.hid hb02
  clear hL hD hD2 hFG hlow hI hb02 hb1 hb2 hF hG
  go_wp2_with fail
  refine hho.mono ?_
  rintro e w3 ⟨v3, rfl, hO3, hb3⟩
  clear hho
  have hS3 : ∀ b, F b ∨ FD b → b < w2.heap.size := fun b hb => by
    rcases hb with h | h
    · exact HL.out.lt b h
    · exact HD.out.lt b h
  have hA3 := hO3.a hS3
  obtain ⟨a3, n3, c3, rfl⟩ := hA3.shape
  have hs3 : ∀ b, F b ∨ FD b → b < w3.heap.size := fun b h => Nat.lt_of_lt_of_le (hS3 b h) hb3.size
  have hb4 : Below w3.heap.size w3 (w3.alloc (.cells #[.slice a3 n3 c3] 50)) := (Below.refl _ _).alloc (Nat.le_refl _) _
  have hst := StA.one hA3 rfl hs3
  have hw3 : w.heap.size ≤ w3.heap.size := (HB2.out.trans (hb3.mono HB2.out.size)).size
  have hK3 : KMem w p z g F FD (log0 k 1 0 0) (newD z) _ (.slice (some ⟨w3.heap.size, 0, none⟩) 1 1) (w3.alloc (.cells #[.slice a3 n3 c3] 50)) :=
    ⟨(HL.out.below hb3).below hb4, (HD.out.below hb3).below hb4, HFG.out, HLOW.out, hst, fun r hr => (by cases hr; exact hw3), by simp [newD], by simp, fun hs hh => by
      rw [List.mem_singleton.1 hh, homesB_len]
      have := homes_le (l := log0 k 1 0 0) HD.out.ok
      omega, (HB2.out.trans (hb3.mono HB2.out.size)).trans (hb4.mono hw3)⟩
  have HK3 : Hid (KIs w p k z 0 (.pointer (some ⟨g, 0, none⟩)) (.slice (some ⟨w3.heap.size, 0, none⟩) 1 1) (w3.alloc (.cells #[.slice a3 n3 c3] 50))) := Lib.hid ⟨_, _, _, _, _, _, rfl, hK3, .inl HI.out, Nat.zero_le _, by simp⟩
  clear hO3 hb3 hS3 hA3 hs3 hb4 hst hw3 hK3 HL HD HFG HLOW HI HB2
  go_wp2_with fail
  go_loopw [9, 11, 12] (fun gv vs iv wi => ∃ i : Nat, i ≤ ds.length ∧ i ≤ 35 ∧ iv = .int .i64 i ∧ KIs w p k z i gv vs wi) (fun _ _ iv _ => ds.length - (intOf iv).toNat)
  case atStart => exact ⟨0, Nat.zero_le _, Nat.zero_le _, rfl, HK3.out⟩
  case round =>
    obtain ⟨i, hi, hi35, rfl, hA⟩ := hrel
    by_cases hin : i < ds.length ∧ i < 35
    · obtain ⟨hil, hi4⟩ := hin
      have hd1 : decide (i < ds.length) = true := by simp [hil]
      have hd2 : decide ((i : Int) < 35) = true := by simp; omega
      obtain ⟨x, hx⟩ : ∃ x, xs[i]? = some x := ⟨_, List.getElem?_eq_getElem (by rw [HXL.out]; exact hil)⟩
      obtain ⟨b4, o4, rfl, hb4, hc4⟩ := x3 (by omega)
      obtain ⟨g, F, FD, l, d, S, rfl, hK, hI, hQ, hSl⟩ := hA
      have hlx := (hc4 i x hx).below' hK.w hb4
      have hdx := HXD.out x (List.mem_of_getElem? hx)
      obtain ⟨⟨kd, nm, qs, od, kp⟩, ⟨a5, n5, c5⟩, ⟨a6, n6, c6⟩⟩ := x
      have q0 : wr.cell? ⟨b4, o4 + i * 5, none⟩ = some (.int .i64 kd) := hlx 0 (by simp [enDo])
      have q1 : wr.cell? ⟨b4, o4 + i * 5 + 1, none⟩ = some (.int .i64 nm) := hlx 1 (by simp [enDo])
      have q2 : wr.cell? ⟨b4, o4 + i * 5 + 2, none⟩ = some (.slice a5 n5 c5) := hlx 2 (by simp [enDo])
      have q4 : wr.cell? ⟨b4, o4 + i * 5 + 4, none⟩ = some (.slice a6 n6 c6) := hlx 4 (by simp [enDo])
      have hqs := hdx.1.below hK.w
      have hq8 := hdx.2.1
      have hkp := hdx.2.2.1.below hK.w
      have hnm := hdx.2.2.2
      simp only at hqs hq8 hkp hnm
      have hfew := few_any wr _ qs hqs 6 (by omega) false
      have hf8 := few_lt hq8 6 false
      have hfl := few_len qs 6 false
      generalize fewB qs 6 false = ps at *
      rw [show ((6 : Nat) : Int) = 6 from rfl] at hfew
      obtain ⟨S0, hs, rfl⟩ : ∃ S0 hs, S = S0 ++ [hs] := by
        rcases List.eq_nil_or_concat S with h | ⟨S0, hs, h⟩
        · exact absurd h hK.ne
        · exact ⟨S0, hs, by rw [h]; simp⟩
      obtain ⟨b8, o8, cp8, rfl, hcp8, hb8⟩ := hK.st.shape
      have hSm : (S0 ++ [hs]).length = S0.length + 1 := by simp
      rw [hSm] at hK hcp8 hSl ⊢
      have em : ((S0.length + 1 : Nat) : Int) - 1 = (S0.length : Int) := by omega
      have em1 : (S0.length : Int) < ((S0.length + 1 : Nat) : Int) := by omega
      have em2 : ((S0.length + 1 : Nat) : Int) ≤ 1000 := by omega
      have hbr : b4 < wr.heap.size := Nat.lt_of_lt_of_le hb4 hK.w.size
      have HK := Lib.hid hK
      have HI := Lib.hid hI
      have HQ := Lib.hid hQ
      have HSL := Lib.hid hSl
      have HF8 := Lib.hid hf8
      have HFL := Lib.hid hfl
      have HKP := Lib.hid hkp
      have hkF : ∀ r, (Value.slice a6 n6 c6).ownBlock = some r → 0 < kp.length → r < w.heap.size := fun r hr h0 => by
        obtain ⟨ao, cp, hv, -, -, h3⟩ := hdx.2.2.1
        simp only at h3
        obtain ⟨b, o, rfl, hlt, -⟩ := h3 h0
        have hv : Value.slice a6 n6 c6 = .slice (some ⟨b, o, none⟩) kp.length cp := hv
        rw [hv] at hr
        cases hr
        exact hlt
      have HKF := Lib.hid hkF
      clear hx hK hI hQ hSl hlx hdx hqs hq8 hf8 hfl hc4 hkp hkF HK3
      go_wp2_with fail
      refine hfew.mono ?_
      rintro e w4 ⟨v4, rfl, hO4, hb4'⟩
      clear hfew
      obtain ⟨a4, n4, c4, rfl⟩ := hO4.shape
      have r0 : w4.cell? ⟨b4, o4 + i * 5, none⟩ = some (.int .i64 kd) := (hb4'.cell (p := ⟨b4, o4 + i * 5, none⟩) hbr).trans q0
      have r1 : w4.cell? ⟨b4, o4 + i * 5 + 1, none⟩ = some (.int .i64 nm) := (hb4'.cell (p := ⟨b4, o4 + i * 5 + 1, none⟩) hbr).trans q1
      have r4 : w4.cell? ⟨b4, o4 + i * 5 + 4, none⟩ = some (.slice a6 n6 c6) := (hb4'.cell (p := ⟨b4, o4 + i * 5 + 4, none⟩) hbr).trans q4
      have hP4 : PtB w4 (fun b => (F b ∨ FD b) ∨ (Value.slice (some ⟨b8, o8, none⟩) (S0.length + 1) cp8).ownBlock = some b) (.slice a4 n4 c4) ps := hO4.b fun b h => .inl (by
        rcases h with h | h
        · exact HK.out.lt b h
        · cases h
          exact hb8)
      have HP4 := Lib.hid hP4
      have HKP4 := Lib.hid (HKP.out.below hb4')
      have HK4 := Lib.hid (HK.out.below hb4')
      clear q0 q1 q2 q4 hO4 hb4' hP4 HKP HK hb8 hbr
      have hlv := live_any HK4.out.D
      go_wp2_with fail
      refine hlv.mono ?_
      rintro e w5 ⟨rfl, hw⟩
      obtain rfl := hw.symm
      clear hw hlv
      obtain ⟨x8, hx8, hB8⟩ := HK4.out.st.get' (j := S0.length) (hs := hs) (by simp)
      obtain ⟨ax, nx, cx⟩ := x8
      have hx8 : w4.cell? ⟨b8, o8 + S0.length, none⟩ = some (.slice ax nx cx) := hx8
      have HB8 := Lib.hid hB8
      clear hB8
      by_cases hk0 : kd = 0
      · subst hk0
        have hwr := gwrite_any HK4.out.L HK4.out.D HK4.out.apart (HI.out.ok (by omega)) _ ps (HP4.out.sub fun b h => .inl h).a HF8.out (by have := HFL.out; omega) (by have := HQ.out; omega)
        rcases HI.out with hI | hI
        · as_aux_lemma =>
            have hon := hI.on
            rw [hon]
            obtain rfl : hs = homesB l d := by
              obtain ⟨S1, e⟩ := hI.last
              have := List.append_inj_right' e rfl
              simpa using this
            go_wp2_with fail
            refine hwr.mono ?_
            rintro e w6 ⟨rfl, F6, FD6, hL6, hD6, hm6, hF6, hFD6, hFF6⟩
            clear hwr
            have hQ6 := lwrite_Q (l := l) (d := d) (ps := ps)
            have hK6 := HK4.out.turn hL6 hD6 hm6 hF6 hFD6 hFF6 hQ6.2
            have hS6 : ∀ b, (F6 b ∨ FD6 b) ∨ (Value.slice (some ⟨b8, o8, none⟩) (S0.length + 1) cp8).ownBlock = some b → ((F b ∨ FD b) ∨ (Value.slice (some ⟨b8, o8, none⟩) (S0.length + 1) cp8).ownBlock = some b) ∨ w4.heap.size ≤ b := fun b hb => by
              rcases hb with (hb | hb) | hb
              · exact (hF6 b hb).imp (fun h => .inl (.inl h)) id
              · exact (hFD6 b hb).imp (fun h => .inl (.inr h)) id
              · exact .inl (.inr hb)
            have hm6' : Mod (fun b => (F b ∨ FD b) ∨ (Value.slice (some ⟨b8, o8, none⟩) (S0.length + 1) cp8).ownBlock = some b) w4 w6 := hm6.mono fun x _ hx => .inl hx
            have HB6 := Lib.hid (HB8.out.mod hm6' hS6)
            have HP6 := Lib.hid (HP4.out.mod hm6' hS6)
            have hkw := klive_write hI (by omega) HF8.out hD6.ok
            have HK6 := Lib.hid hK6
            have HQ6 := Lib.hid hQ6
            clear hL6 hD6 hm6 hF6 hFD6 hFF6 hK6 hQ6 hS6 hm6'
            generalize hr6 : l.write d ps = r6 at *
            obtain ⟨l6, d6, c6'⟩ := r6
            simp only at hkw HK6 HQ6 ⊢
            have hlt6 : ∀ b, (F6 b ∨ FD6 b) ∨ (Value.slice (some ⟨b8, o8, none⟩) (S0.length + 1) cp8).ownBlock = some b → b < w6.heap.size := fun b hb => by
              rcases hb with hb | hb
              · exact HK6.out.lt b hb
              · exact HK6.out.st.lt hb
            have HLT6 := Lib.hid hlt6
            have hl50 : (homesB l d).length ≤ 5000 := HK4.out.small _ (by simp)
            clear hr6 hlt6
            rcases hkw with ⟨rfl, hI6⟩ | ⟨rfl, hI6⟩ | ⟨hc0, hc7, rfl, rfl⟩
            · -- written
              have hho := lhomes_any HK6.out.L HK6.out.D (KInv.ok (.inl hI6) (by omega))
              have hl51 : (homesB l6 d6).length ≤ 5000 := by
                rw [homesB_len]
                have := homes_le (l := l6) HK6.out.D.ok
                omega
              have HI6 := Lib.hid hI6
              clear hI6
              go_wp2_with fail
              refine hho.mono ?_
              rintro e w7 ⟨v7, rfl, hO7, hb7⟩
              clear hho
              have hA7 := hO7.a HLT6.out
              obtain ⟨a7, n7, c7, rfl⟩ := hA7.shape
              have HK7 := Lib.hid (HK6.out.below hb7)
              have HA7 := Lib.hid hA7
              clear hO7 hb7 hA7
              go_wp2_with (first
                | ((with_reducible refine wpList_appendSt HK7.out.st HA7.out (by simp; omega) HK7.out.lt ?_ ?_ ?_ ?_); rfl; rfl; rfl; (intro v9 w9 hst hm hown; have HR := Lib.hid (HK7.out.app hst hm hown hl51); clear hst hm hown); go_frame)
                | fail)
              go_roundw
              case rel => exact ⟨i + 1, by omega, by omega, by go_num, g, F6, FD6, l6, d6, _, rfl, HR.out, .inl HI6.out, by have := HQ6.out.1; have := HQ.out; omega, by have := HSL.out; simp at this ⊢; omega⟩
              case measure => simp [intOf]; omega
            · -- the power went off
              have hov := over_any w6 _ _ _ _ _ HB6.out HP6.out HLT6.out hl50
              have hl51 : (overB (homesB l d) ps).length ≤ 5000 := by rw [overB_len]; exact hl50
              have HI6 := Lib.hid hI6
              clear hI6
              go_wp2_with fail
              refine hov.mono ?_
              rintro e w7 ⟨v7, rfl, hA7, hb7⟩
              clear hov
              obtain ⟨a7, n7, c7, rfl⟩ := hA7.shape
              have HK7 := Lib.hid (HK6.out.below hb7)
              have HA7 := Lib.hid hA7
              clear hb7 hA7
              go_wp2_with (first
                | ((with_reducible refine wpList_appendSt HK7.out.st HA7.out (by simp; omega) HK7.out.lt ?_ ?_ ?_ ?_); rfl; rfl; rfl; (intro v9 w9 hst hm hown; have HR := Lib.hid (HK7.out.app hst hm hown hl51); clear hst hm hown); go_frame)
                | fail)
              go_roundw
              case rel => exact ⟨i + 1, by omega, by omega, by go_num, g, F6, FD6, l6, d6, _, rfl, HR.out, .inr HI6.out, by have := HQ6.out.1; have := HQ.out; omega, by have := HSL.out; simp at this ⊢; omega⟩
              case measure => simp [intOf]; omega
            · -- refused
              have hd0 : ((c6' : Int) == 0) = false := by simp; omega
              have hd7 : ((c6' : Int) == 7) = false := by simp; omega
              have hho := lhomes_any HK6.out.L HK6.out.D (HI.out.ok (by omega))
              go_wp2_with fail
              refine hho.mono ?_
              rintro e w7 ⟨v7, rfl, hO7, hb7⟩
              clear hho
              have hA7 := hO7.a HLT6.out
              obtain ⟨a7, n7, c7, rfl⟩ := hA7.shape
              have hB7 := HB6.out.below hb7 (S' := fun b => (F6 b ∨ FD6 b) ∨ (Value.slice (some ⟨b8, o8, none⟩) (S0.length + 1) cp8).ownBlock = some b) fun b h => .inl h
              have hsm := lsame_any w7 _ _ _ _ _ hA7 hB7
              rw [decide_eq_true rfl] at hsm
              have HK7 := Lib.hid (HK6.out.below hb7)
              clear hO7 hb7 hA7 hB7
              go_wp2_with fail
              refine hsm.mono ?_
              rintro e w9 ⟨rfl, hb9⟩
              have HK9 := Lib.hid (HK7.out.below hb9)
              clear hsm hb9
              go_wp2
              go_roundw
              case rel => exact ⟨i + 1, by omega, by omega, by go_num, g, F6, FD6, l6, d6, _, rfl, HK9.out, HI.out.mono (by omega), by have := HQ.out; omega, by have := HSL.out; simp at this ⊢; omega⟩
              case measure => simp [intOf]; omega
        · as_aux_lemma =>
            -- the power is off
            have hon := hI.off
            have hwd : l.write d ps = (l, d, 7) := by
              unfold Lg.write
              rw [if_pos (by rw [hI.err]; decide), hI.err]
            rw [hwd] at hwr
            rw [hon]
            go_wp2_with fail
            refine hwr.mono ?_
            rintro e w6 ⟨rfl, F6, FD6, hL6, hD6, hm6, hF6, hFD6, hFF6⟩
            clear hwr hwd
            simp only at hL6 hD6 ⊢
            have hK6 := HK4.out.turn hL6 hD6 hm6 hF6 hFD6 hFF6 rfl
            have hS6 : ∀ b, (F6 b ∨ FD6 b) ∨ (Value.slice (some ⟨b8, o8, none⟩) (S0.length + 1) cp8).ownBlock = some b → ((F b ∨ FD b) ∨ (Value.slice (some ⟨b8, o8, none⟩) (S0.length + 1) cp8).ownBlock = some b) ∨ w4.heap.size ≤ b := fun b hb => by
              rcases hb with (hb | hb) | hb
              · exact (hF6 b hb).imp (fun h => .inl (.inl h)) id
              · exact (hFD6 b hb).imp (fun h => .inl (.inr h)) id
              · exact .inl (.inr hb)
            have hm6' : Mod (fun b => (F b ∨ FD b) ∨ (Value.slice (some ⟨b8, o8, none⟩) (S0.length + 1) cp8).ownBlock = some b) w4 w6 := hm6.mono fun x _ hx => .inl hx
            have HB6 := Lib.hid (HB8.out.mod hm6' hS6)
            have HK6 := Lib.hid hK6
            have hlt6 : ∀ b, (F6 b ∨ FD6 b) ∨ (Value.slice (some ⟨b8, o8, none⟩) (S0.length + 1) cp8).ownBlock = some b → b < w6.heap.size := fun b hb => by
              rcases hb with hb | hb
              · exact HK6.out.lt b hb
              · exact HK6.out.st.lt hb
            have HLT6 := Lib.hid hlt6
            clear hL6 hD6 hm6 hF6 hFD6 hFF6 hK6 hS6 hm6' hlt6
            have hho := lhomes_any HK6.out.L HK6.out.D (HI.out.ok (by omega))
            go_wp2_with fail
            refine hho.mono ?_
            rintro e w7 ⟨v7, rfl, hO7, hb7⟩
            clear hho
            have hA7 := hO7.a HLT6.out
            obtain ⟨a7, n7, c7, rfl⟩ := hA7.shape
            have hB7 := HB6.out.below hb7 (S' := fun b => (F6 b ∨ FD6 b) ∨ (Value.slice (some ⟨b8, o8, none⟩) (S0.length + 1) cp8).ownBlock = some b) fun b h => .inl h
            have hsm := lsame_any w7 _ _ _ _ _ hA7 hB7
            generalize decide (homesB l d = hs) = bb at hsm
            have HK7 := Lib.hid (HK6.out.below hb7)
            clear hO7 hb7 hA7 hB7
            go_wp2_with fail
            refine hsm.mono ?_
            rintro e w9 ⟨rfl, hb9⟩
            have HK9 := Lib.hid (HK7.out.below hb9)
            clear hsm hb9
            have hl9 := live_any HK9.out.D
            rw [hon] at hl9
            cases bb with
            | true =>
              go_wp2
              go_roundw
              case rel => exact ⟨i + 1, by omega, by omega, by go_num, g, F6, FD6, l, d, _, rfl, HK9.out, HI.out.mono (by omega), by have := HQ.out; omega, by have := HSL.out; simp at this ⊢; omega⟩
              case measure => simp [intOf]; omega
            | false =>
              go_wp2_with (first
                | (go_at_call 31; refine hl9.mono ?_; rintro e w10 ⟨rfl, hw⟩; obtain rfl := hw.symm; clear hw)
                | fail)
              go_roundw
              case rel => exact ⟨i + 1, by omega, by omega, by go_num, g, F6, FD6, l, d, _, rfl, HK9.out, HI.out.mono (by omega), by have := HQ.out; omega, by have := HSL.out; simp at this ⊢; omega⟩
              case measure => simp [intOf]; omega
      · have e0 : (kd == 0) = false := by simp [hk0]
        clear HP4
        by_cases hk3 : kd = 3
        · as_aux_lemma =>
            subst hk3
            have hfu := fuse_any HK4.out.D nm hnm
            go_wp2_with fail
            refine hfu.mono ?_
            rintro e w6 ⟨rfl, hD6, hm6⟩
            have hL6 := HK4.out.L.mod hm6 (fun b h1 h2 => HK4.out.apart b h1 h2)
            have hK6 := HK4.out.turn hL6 hD6 (hm6.mono fun x _ hx => .inr hx) (fun b h => .inl h) (fun b h => .inl h) HK4.out.apart (by rw [(arm_L d nm).1])
            have HK6 := Lib.hid hK6
            have HI6 := Lib.hid (HI.out.arm hnm)
            clear hfu hD6 hm6 hL6 hK6
            go_wp2
            go_roundw
            case rel => exact ⟨i + 1, by omega, by omega, by go_num, g, F, FD, l, _, _, rfl, HK6.out, HI6.out.mono (by omega), by rw [(arm_L d nm).2]; have := HQ.out; omega, by have := HSL.out; simp at this ⊢; omega⟩
            case measure => simp [intOf]; omega
        · have e3 : (kd == 3) = false := by simp [hk3]
          by_cases hk1 : kd = 1
          · as_aux_lemma =>
              subst hk1
              have hcl := sync_any HK4.out.L HK4.out.D HK4.out.apart
              go_wp2_with fail
              refine hcl.mono ?_
              rintro e w6 ⟨rfl, hL6, hD6, hm6⟩
              have hQ6 := lsync_Q (l := l) (d := d)
              have hK6 := HK4.out.turn hL6 hD6 hm6 (fun b h => .inl h) (fun b h => .inl h) HK4.out.apart hQ6.2
              have HQ6 : Hid ((l.sync d).2.Q.length ≤ d.Q.length + 5000) := Lib.hid (by have := hQ6.1; omega)
              have hdok := hD6.ok
              clear hcl hL6 hD6 hm6 hQ6
              obtain ⟨F6, hF6⟩ : ∃ F6, F6 = F := ⟨_, rfl⟩
              obtain ⟨FD6, hFD6⟩ : ∃ F6, F6 = FD := ⟨_, rfl⟩
              rw [← hF6, ← hFD6] at hK6
              clear hF6 hFD6
              have HK6 := Lib.hid hK6
              clear hK6
              rcases HI.out with hI | hI
              · obtain rfl : hs = homesB l d := by
                  obtain ⟨S1, e⟩ := hI.last
                  have := List.append_inj_right' e rfl
                  simpa using this
                have hkw := klive_sync hI hdok
                generalize hr6 : l.sync d = r6 at *
                obtain ⟨l6, d6⟩ := r6
                simp only at hkw HK6 HQ6 ⊢
                clear hr6 hdok
                rcases hkw with ⟨hz, hI6, hH6⟩ | ⟨hz, hI6⟩
                · rw [hz]
                  have HI6 := Lib.hid (hI6.mono (Nat.le_succ i))
                  have HH6 := Lib.hid hH6
                  clear hI6 hH6 hz
                  have hKc := HK6.out.cut
                  obtain ⟨x0, hx0, hB0⟩ := hKc.st.get (j := 0) (hs := homesB l d) rfl
                  obtain ⟨ay, ny, cy⟩ := x0
                  have hS : w6.drew.cell? ⟨b8, o8 + S0.length, none⟩ = some (.slice ay ny cy) := hx0
                  have HKC := Lib.hid hKc
                  have HB0 := Lib.hid hB0
                  have hb86 : b8 < w6.heap.size := hKc.st.lt rfl
                  have HAD : Hid ((if cp8 = S0.length then (some ⟨b8, o8, none⟩ : Option Addr) else (some (⟨b8, o8, none⟩ : Addr)).map (·.add (S0.length * 1))) = some ⟨b8, o8 + S0.length, none⟩) := Lib.hid (by
                    rw [if_neg (by omega), Nat.mul_one, Option.map_some, addr_add])
                  have HLN : Hid (S0.length + 1 - S0.length = 1) := Lib.hid (by omega)
                  have hlo : S0.length ≤ S0.length + 1 := Nat.le_succ _
                  clear hKc hx0 hB0
                  go_upto_region 45 with (first
                    | ((with_reducible refine wpList_exec rfl (exec_sliceLo2 Tryz.underlying61 sizeSt hlo HAD.out HLN.out rfl ?_ ?_) ?_); rfl; rfl; go_frame)
                    | fail)
                  refine wp_region_x (fun w' => w'.cell? ⟨b8, o8 + S0.length, none⟩ = some (.slice ay ny cy)) [(0, 1), (2, 1), (3, 1), (4, 0), (1, 2), (5, 2), (6, 1)] (by kernel_rfl) (by kernel_rfl) (by intro d v c a w h; cases d <;> exact h) ?_
                  iterate 3 (refine x_take rfl (fun K hK => ?_); go_simp; refine hK _ ?_; clear hK K)
                  refine x_read rfl hS (fun w' h => exec_load1 ⟨⟨_, Tryz.underlying50, rfl⟩⟩ rfl h) ?_
                  refine x_show' rfl (fun K hK => ?_)
                  go_simp
                  have hKd := HKC.out.below (Below.refl _ _).drew
                  refine (lhomes_any hKd.L hKd.D (KInv.ok (.inl HI6.out) (by omega))).mono ?_
                  rintro e w7 ⟨v7, rfl, hO7, hb7⟩
                  have hS7 := (hb7.cell (p := ⟨b8, o8 + S0.length, none⟩) hb86).trans hS
                  refine hK _ _ hS7 ?_
                  clear hK K hS
                  have hA7 := hO7.a hKd.lt
                  have hB7 := (HB0.out.below (Below.refl _ _).drew (S' := fun b => F6 b ∨ FD6 b) fun b h => .inl h).below hb7 (S' := fun b => F6 b ∨ FD6 b) fun b h => .inl h
                  have hsm := lsame_any w7 _ _ _ _ _ hA7 hB7
                  rw [HH6.out, decide_eq_true rfl] at hsm
                  have HK7 := Lib.hid (hKd.below hb7)
                  have hb87 : b8 < w7.heap.size := Nat.lt_of_lt_of_le hb86 hb7.size
                  obtain ⟨a7, n7, c7, rfl⟩ := hA7.shape
                  clear hO7 hb7 hA7 hB7 hKd
                  refine x_show' rfl (fun K hK => ?_)
                  go_simp
                  refine hsm.mono ?_
                  rintro e w9 ⟨rfl, hb9⟩
                  have hS9 := (hb9.cell (p := ⟨b8, o8 + S0.length, none⟩) hb87).trans hS7
                  refine hK _ _ hS9 ?_
                  clear hK K hS7 hS9 hsm
                  have HK9 := Lib.hid (HK7.out.below hb9)
                  clear hb9
                  iterate 1 (refine x_take rfl (fun K hK => ?_); go_simp; refine hK _ ?_; clear hK K)
                  refine x_nil ?_
                  go_wp2
                  go_roundw
                  case rel => exact ⟨i + 1, by omega, by omega, by go_num, g, F6, FD6, l6, d6, _, rfl, HK9.out, .inl HI6.out, by have := HQ6.out; have := HQ.out; omega, by simp⟩
                  case measure => simp [intOf]; omega
                · rw [hz]
                  have HI6 := Lib.hid (hI6.mono (Nat.le_succ i))
                  clear hI6 hz
                  go_wp2
                  go_roundw
                  case rel => exact ⟨i + 1, by omega, by omega, by go_num, g, F6, FD6, l6, d6, _, rfl, HK6.out, .inr HI6.out, by have := HQ6.out; have := HQ.out; omega, by have := HSL.out; simp at this ⊢; omega⟩
                  case measure => simp [intOf]; omega
              · have hwd : l.sync d = (l, d) := by
                  unfold Lg.sync
                  rw [if_pos (by rw [hI.err]; decide)]
                rw [hwd] at HK6
                rw [hwd, hI.err]
                clear hwd HQ6 hdok
                go_wp2
                go_roundw
                case rel => exact ⟨i + 1, by omega, by omega, by go_num, g, F6, FD6, l, d, _, rfl, HK6.out, HI.out.mono (by omega), by have := HQ.out; omega, by have := HSL.out; simp at this ⊢; omega⟩
                case measure => simp [intOf]; omega
          · have e1 : (kd == 1) = false := by simp [hk1]
            by_cases hkd2 : kd = 2
            · as_aux_lemma =>
                subst hkd2
                have hcl := check_any HK4.out.L HK4.out.D HK4.out.apart (HI.out.ok (by omega)) (by have := HQ.out; omega)
                go_wp2_with fail
                refine hcl.mono ?_
                rintro e w6 ⟨rfl, F6, FD6, hL6, hD6, hm6, hF6, hFD6, hFF6⟩
                have hQ6 := lcheck_Q (l := l) (d := d) HK4.out.D.ok.hi
                have hK6 := HK4.out.turn hL6 hD6 hm6 hF6 hFD6 hFF6 hQ6.2
                have HQ6 := Lib.hid hQ6.1
                have hdok := hD6.ok
                have HK6 := Lib.hid hK6
                clear hcl hL6 hD6 hm6 hF6 hFD6 hFF6 hQ6 hK6
                rcases HI.out with hI | hI
                · obtain rfl : hs = homesB l d := by
                    obtain ⟨S1, e⟩ := hI.last
                    have := List.append_inj_right' e rfl
                    simpa using this
                  have hkw := klive_check hI (by omega) hdok
                  generalize hr6 : l.check d = r6 at *
                  obtain ⟨l6, d6, c6'⟩ := r6
                  simp only at hkw HK6 HQ6 ⊢
                  clear hr6 hdok
                  rcases hkw with ⟨rfl, hI6, hH6⟩ | ⟨rfl, hI6⟩
                  · have HI6 := Lib.hid hI6
                    have HH6 := Lib.hid hH6
                    clear hI6 hH6
                    have hKc := HK6.out.cut
                    obtain ⟨x0, hx0, hB0⟩ := hKc.st.get (j := 0) (hs := homesB l d) rfl
                    obtain ⟨ay, ny, cy⟩ := x0
                    have hS : w6.drew.cell? ⟨b8, o8 + S0.length, none⟩ = some (.slice ay ny cy) := hx0
                    have HKC := Lib.hid hKc
                    have HB0 := Lib.hid hB0
                    have hb86 : b8 < w6.heap.size := hKc.st.lt rfl
                    have HAD : Hid ((if cp8 = S0.length then (some ⟨b8, o8, none⟩ : Option Addr) else (some (⟨b8, o8, none⟩ : Addr)).map (·.add (S0.length * 1))) = some ⟨b8, o8 + S0.length, none⟩) := Lib.hid (by
                      rw [if_neg (by omega), Nat.mul_one, Option.map_some, addr_add])
                    have HLN : Hid (S0.length + 1 - S0.length = 1) := Lib.hid (by omega)
                    have hlo : S0.length ≤ S0.length + 1 := Nat.le_succ _
                    clear hKc hx0 hB0
                    go_upto_region 45 with (first
                      | ((with_reducible refine wpList_exec rfl (exec_sliceLo2 Tryz.underlying61 sizeSt hlo HAD.out HLN.out rfl ?_ ?_) ?_); rfl; rfl; go_frame)
                      | fail)
                    refine wp_region_x (fun w' => w'.cell? ⟨b8, o8 + S0.length, none⟩ = some (.slice ay ny cy)) [(0, 1), (2, 1), (3, 1), (4, 0), (1, 2), (5, 2), (6, 1)] (by kernel_rfl) (by kernel_rfl) (by intro d v c a w h; cases d <;> exact h) ?_
                    iterate 3 (refine x_take rfl (fun K hK => ?_); go_simp; refine hK _ ?_; clear hK K)
                    refine x_read rfl hS (fun w' h => exec_load1 ⟨⟨_, Tryz.underlying50, rfl⟩⟩ rfl h) ?_
                    refine x_show' rfl (fun K hK => ?_)
                    go_simp
                    have hKd := HKC.out.below (Below.refl _ _).drew
                    refine (lhomes_any hKd.L hKd.D (KInv.ok (.inl HI6.out) (by omega))).mono ?_
                    rintro e w7 ⟨v7, rfl, hO7, hb7⟩
                    have hS7 := (hb7.cell (p := ⟨b8, o8 + S0.length, none⟩) hb86).trans hS
                    refine hK _ _ hS7 ?_
                    clear hK K hS
                    have hA7 := hO7.a hKd.lt
                    have hB7 := (HB0.out.below (Below.refl _ _).drew (S' := fun b => F6 b ∨ FD6 b) fun b h => .inl h).below hb7 (S' := fun b => F6 b ∨ FD6 b) fun b h => .inl h
                    have hsm := lsame_any w7 _ _ _ _ _ hA7 hB7
                    rw [HH6.out, decide_eq_true rfl] at hsm
                    have HK7 := Lib.hid (hKd.below hb7)
                    have hb87 : b8 < w7.heap.size := Nat.lt_of_lt_of_le hb86 hb7.size
                    obtain ⟨a7, n7, c7, rfl⟩ := hA7.shape
                    clear hO7 hb7 hA7 hB7 hKd
                    refine x_show' rfl (fun K hK => ?_)
                    go_simp
                    refine hsm.mono ?_
                    rintro e w9 ⟨rfl, hb9⟩
                    have hS9 := (hb9.cell (p := ⟨b8, o8 + S0.length, none⟩) hb87).trans hS7
                    refine hK _ _ hS9 ?_
                    clear hK K hS7 hS9 hsm
                    have HK9 := Lib.hid (HK7.out.below hb9)
                    clear hb9
                    iterate 1 (refine x_take rfl (fun K hK => ?_); go_simp; refine hK _ ?_; clear hK K)
                    refine x_nil ?_
                    go_wp2
                    go_roundw
                    case rel => exact ⟨i + 1, by omega, by omega, by go_num, g, F6, FD6, l6, d6, _, rfl, HK9.out, .inl HI6.out, by have := HQ6.out; have := HQ.out; omega, by simp⟩
                    case measure => simp [intOf]; omega
                  · have HI6 := Lib.hid hI6
                    clear hI6
                    go_wp2
                    go_roundw
                    case rel => exact ⟨i + 1, by omega, by omega, by go_num, g, F6, FD6, l6, d6, _, rfl, HK6.out, .inr HI6.out, by have := HQ6.out; have := HQ.out; omega, by have := HSL.out; simp at this ⊢; omega⟩
                    case measure => simp [intOf]; omega
                · have hwd : l.check d = (l, d, 7) := by
                    have he := hI.err
                    have hs : l.sync d = (l, d) := by
                      unfold Lg.sync
                      rw [if_pos (by rw [he]; decide)]
                    unfold Lg.check
                    rw [hs]
                    simp only
                    rw [if_pos (by rw [he]; decide), he]
                  rw [hwd] at HK6
                  rw [hwd]
                  simp only at HK6 ⊢
                  clear hwd HQ6 hdok
                  go_wp2
                  go_roundw
                  case rel => exact ⟨i + 1, by omega, by omega, by go_num, g, F6, FD6, l, d, _, rfl, HK6.out, HI.out.mono (by omega), by have := HQ.out; omega, by have := HSL.out; simp at this ⊢; omega⟩
                  case measure => simp [intOf]; omega
            · have e2 : (kd == 2) = false := by simp [hkd2]
              as_aux_lemma =>
              go_upto_region 14 with fail
              have hb4w : b4 < w.heap.size := hb4
              have hS : w4.drew.cell? ⟨b4, o4 + i * 5 + 4, none⟩ = some (.slice a6 n6 c6) ∧ w4.drew.cell? ⟨b4, o4 + i * 5 + 1, none⟩ = some (.int .i64 nm) := ⟨r4, r1⟩
              refine wp_region_x (fun w' => w'.cell? ⟨b4, o4 + i * 5 + 4, none⟩ = some (.slice a6 n6 c6) ∧ w'.cell? ⟨b4, o4 + i * 5 + 1, none⟩ = some (.int .i64 nm)) [(0, 1), (1, 1), (2, 1), (3, 1), (4, 1), (5, 0), (6, 1), (7, 1), (8, 1), (9, 1), (10, 0), (11, 2)] (by kernel_rfl) (by kernel_rfl) (by intro d v c a w h; cases d <;> exact h) ?_
              iterate 5 (refine x_take rfl (fun K hK => ?_); go_simp; refine hK _ ?_; clear hK K)
              refine x_read rfl hS (fun w' h => exec_load1 ⟨⟨_, Tryz.underlying39, rfl⟩⟩ rfl h.1) ?_
              iterate 4 (refine x_take rfl (fun K hK => ?_); go_simp; refine hK _ ?_; clear hK K)
              refine x_read rfl hS (fun w' h => exec_load1 ⟨⟨_, Tryz.underlying3, rfl⟩⟩ rfl h.2) ?_
              refine x_show' rfl (fun K hK => ?_)
              go_simp
              have hKd := HK4.out.below (Below.refl _ _).drew
              refine (dcrash_any hKd.D _ kp (HKP4.out.below (Below.refl _ _).drew) (fun h0 r hr e => absurd (HK4.out.low r (.inr e)) (Nat.not_le.2 (HKF.out r hr h0))) nm).mono ?_
              rintro e w6 ⟨rfl, hD6, hm6⟩
              have hnF : ¬ FD b4 := fun e => absurd (HK4.out.low b4 (.inr e)) (Nat.not_le.2 hb4w)
              have hS6 := And.intro (cell_mod hS.1 hm6 hnF) (cell_mod hS.2 hm6 hnF)
              refine hK _ _ hS6 ?_
              clear hK K hS hS6
              refine x_nil ?_
              have hL6 := hKd.L.mod hm6 (fun b h1 h2 => hKd.apart b h1 h2)
              have hK6 := hKd.turn hL6 hD6 (hm6.mono fun x _ hx => .inr hx) (fun b h => .inl h) (fun b h => .inl h) hKd.apart (by rw [crash_L])
              have hlen := hKd.len
              obtain ⟨l2, ho2, hnew, hI2, hmem⟩ := kcrash HI.out.outs hKd.D.ok hk2 (by omega) (by omega) kp nm
              have hcL := crash_L d kp nm
              have hcQ := crash_Q d kp nm
              obtain ⟨d6, hd6⟩ : ∃ d6, d.crash kp nm = d6 := ⟨_, rfl⟩
              rw [hd6] at hD6 hK6 ho2 hnew hI2 hmem hcL hcQ
              clear hd6 hL6 hm6 hKd
              have hop := open_main hD6 k hk2 (by omega) (by omega) hnew l2 ho2
              have HK6 := Lib.hid hK6
              have HI2 := Lib.hid hI2
              have HM := Lib.hid hmem
              clear hK6 hI2 hmem hD6
              go_wp2_with fail
              refine hop.mono ?_
              rintro e w7 ⟨g7, F7, rfl, hL7, hb7, hG7⟩
              have HK7 := Lib.hid (HK6.out.below hb7)
              have hop2 := open_main HK7.out.D k hk2 (by omega) (by omega) hnew l2 ho2
              clear hop hb7
              go_wp2_with fail
              refine hop2.mono ?_
              rintro e w8 ⟨g8, F8, rfl, hL8, hb8, hG8⟩

              have hHi := homes_le (l := l2) HK6.out.D.ok
              have hap8 : ∀ b, F8 b → ¬ FD b := fun b h1 h2 => absurd (HK7.out.lt b (.inr h2)) (Nat.not_lt.2 (hG8 b h1))
              have hlow8 : ∀ b, F8 b ∨ FD b → w.heap.size ≤ b := fun b hb => by
                rcases hb with hb | hb
                · have := hG8 b hb; have := HK7.out.w.size; omega
                · exact HK7.out.low b (.inr hb)
              have HAP := Lib.hid hap8
              have HLOW := Lib.hid hlow8
              have HK8 := Lib.hid (HK7.out.below hb8)
              have HLA := Lib.hid (hL7.below hb8)
              have HLB := Lib.hid hL8
              have hok2 := KInv.ok (.inl HI2.out) (show i + 1 ≤ 1000 by omega)
              clear hop2 hL7 hb8 hG7 hG8 hL8 hap8 hlow8 HK6 HK7
              have hh1 := lhomes_any HLA.out HK8.out.D hok2
              go_wp2_with fail
              refine hh1.mono ?_
              rintro e w9 ⟨v9, rfl, hO9, hb9⟩
              clear hh1
              have hA9 := hO9.a (S := fun _ => False) (fun b h => h.elim)
              obtain ⟨a9, n9, c9, rfl⟩ := hA9.shape
              have HK9 := Lib.hid (HK8.out.below hb9)
              have HLA9 := Lib.hid (HLA.out.below hb9)
              have HLB9 := Lib.hid (HLB.out.below hb9)
              have HA9 := Lib.hid hA9
              clear hO9 hb9 hA9 HK8 HLA HLB
              have hh1 := lhomes_any HLB9.out HK9.out.D hok2
              go_wp2_with fail
              refine hh1.mono ?_
              rintro e w10 ⟨v10, rfl, hO10, hb10⟩
              clear hh1
              have hA10 := hO10.a (S := fun _ => False) (fun b h => h.elim)
              obtain ⟨a10, n10, c10, rfl⟩ := hA10.shape
              have HK10 := Lib.hid (HK9.out.below hb10)
              have HLA10 := Lib.hid (HLA9.out.below hb10)
              have HLB10 := Lib.hid (HLB9.out.below hb10)
              have hA9' := HA9.out.below hb10 (S' := fun _ => False) (fun b h => h.elim)
              have hsm := lsame_any w10 _ _ _ _ _ hA9' hA10
              rw [decide_eq_true rfl] at hsm
              clear hO10 hb10 hA9' hA10 HK9 HLA9 HLB9 HA9
              go_wp2_with fail
              refine hsm.mono ?_
              rintro e w11 ⟨rfl, hb11⟩
              have HK11 := Lib.hid (HK10.out.below hb11)
              have HLA11 := Lib.hid (HLA10.out.below hb11)
              have HLB11 := Lib.hid (HLB10.out.below hb11)
              clear hsm hb11 HK10 HLA10 HLB10
              have hnx2 := HI2.out.nx
              have hrn2 := HI2.out.rn
              obtain ⟨hft1, hft2⟩ : l2.tail ≤ l2.next ∧ l2.next ≤ l2.tail + l2.n := by
                obtain ⟨F', D', P', hr', -, -⟩ := HI2.out.ex
                exact ⟨hr'.fit.tail, hr'.fit.next⟩
              have hfr := free_any HLA11.out hft1 hft2 (by omega) (by omega)
              go_wp2_with fail
              refine hfr.mono ?_
              rintro e w12 ⟨rfl, hb12⟩
              have HK12 := Lib.hid (HK11.out.below hb12)
              have HLB12 := Lib.hid (HLB11.out.below hb12)
              clear hfr hb12 HK11 HLA11 HLB11
              have hfr := free_any HLB12.out hft1 hft2 (by omega) (by omega)
              go_wp2_with fail
              refine hfr.mono ?_
              rintro e w13 ⟨rfl, hb13⟩
              have HK13 := Lib.hid (HK12.out.below hb13)
              have HLB13 := Lib.hid (HLB12.out.below hb13)
              clear hfr hb13 HK12 HLB12 hft1 hft2
              have hne : ((l2.free : Int) != (l2.free : Int)) = false := bne_self_eq_false _
              have hh1 := lhomes_any HLB13.out HK13.out.D hok2
              go_wp2_with fail
              refine hh1.mono ?_
              rintro e w14 ⟨v14, rfl, hO14, hb14⟩
              clear hh1
              have hA14 := hO14.a (S := fun b => F8 b ∨ FD b) (fun b h => by
                rcases h with h | h
                · exact HLB13.out.lt b h
                · exact HK13.out.lt b (.inr h))
              obtain ⟨a14, n14, c14, rfl⟩ := hA14.shape
              have HK14 := Lib.hid (HK13.out.below hb14)
              have HLB14 := Lib.hid (HLB13.out.below hb14)
              have HA14 := Lib.hid hA14
              clear hO14 hb14 hA14 HK13 HLB13 hne
              generalize hnow : homesB l2 d6 = now at *
              go_wp2
              go_loopw [23, 24] (fun fv iv wi => ∃ s : Nat, ∃ fb : Bool, s ≤ S0.length + 1 ∧ iv = .int .i64 s ∧ fv = .bool fb ∧ (fb = true ↔ now ∈ (S0 ++ [hs]).take s) ∧ Below w14.heap.size w14 wi) (fun _ iv _ => S0.length + 1 - (intOf iv).toNat)
              case atStart => exact ⟨0, false, Nat.zero_le _, rfl, rfl, by simp, Below.refl _ _⟩
              case round =>
                obtain ⟨s, fb, hs1, rfl, rfl, hfb, hbe⟩ := hrel
                by_cases hlt : s < S0.length + 1
                · have hd1 : decide ((s : Int) < ((S0.length + 1 : Nat) : Int)) = true := decide_eq_true (by omega)
                  have hd1' : decide (s < S0.length + 1) = true := decide_eq_true hlt
                  obtain ⟨hs', hx⟩ : ∃ x, (S0 ++ [hs])[s]? = some x := ⟨_, List.getElem?_eq_getElem (by simpa using hlt)⟩
                  have HTK := Lib.hid (take_snoc hx)
                  have hsl : (s : Int) < ((S0.length + 1 : Nat) : Int) := by omega
                  have HX := Lib.hid hx
                  have HFB := Lib.hid hfb
                  clear hx hfb
                  cases fb with
                  | true =>
                    go_wp2
                    go_roundw
                    case rel => exact ⟨s + 1, true, by omega, by go_num, rfl, by rw [HTK.out]; have := HFB.out.1 rfl; simp; exact .inl (by simpa using this), hbe⟩
                    case measure => simp [intOf]; omega
                  | false =>
                    have hKr := HK14.out.below hbe
                    obtain ⟨x8', hx8', hB8'⟩ := hKr.st.get (j := s) (hs := hs') HX.out
                    obtain ⟨ax', nx', cx'⟩ := x8'
                    replace hx8' : wr.cell? ⟨b8, o8 + s, none⟩ = some (.slice ax' nx' cx') := hx8'
                    have hB8'' : BlA wr (fun _ => False) (.slice ax' nx' cx') hs' := hB8'.sub fun b h => h.elim
                    have hA' := (HA14.out.below hbe (S' := fun _ => False) fun b h => h.elim)
                    have hsm := lsame_any wr _ _ _ _ _ hB8'' hA'
                    have HBE := Lib.hid hbe
                    clear hKr hB8' hB8'' hA' hbe
                    go_wp2_with fail
                    refine hsm.mono ?_
                    rintro e w15 ⟨rfl, hb15⟩
                    have HB15 := Lib.hid (HBE.out.trans (hb15.mono HBE.out.size))
                    clear hsm hb15
                    go_wp2
                    go_roundw
                    case rel => exact ⟨s + 1, _, by omega, by go_num, rfl, by rw [HTK.out, List.mem_append, List.mem_singleton, decide_eq_true_iff, eq_comm, ← HFB.out]; simp, HB15.out⟩
                    case measure => simp [intOf]; omega
                · obtain rfl : s = S0.length + 1 := by omega
                  have hd1 : decide ((((S0.length + 1 : Nat) : Int)) < ((S0.length + 1 : Nat) : Int)) = false := decide_eq_false (by omega)
                  have hd1' : decide (S0.length + 1 < S0.length + 1) = false := decide_eq_false (by omega)
                  obtain rfl : fb = true := hfb.2 (by
                    rw [List.take_of_length_le (by simp)]
                    exact HM.out)
                  have hKr := HK14.out.below hbe
                  have hLr := HLB14.out.below hbe
                  have hAr := HA14.out.below hbe (S' := fun b => F8 b ∨ FD b) fun b h => .inl h
                  have hs8 : ∀ b, F8 b ∨ FD b → b < wr.heap.size := fun b h => by
                    rcases h with h | h
                    · exact hLr.lt b h
                    · exact hKr.lt b (.inr h)
                  have hst := StA.one hAr rfl hs8
                  have hba : Below wr.heap.size wr (wr.alloc (.cells #[.slice a14 n14 c14] 50)) := (Below.refl _ _).alloc (Nat.le_refl _) _
                  have hKn : KMem w p z g8 F8 FD l2 d6 [now] (.slice (some ⟨wr.heap.size, 0, none⟩) 1 1) (wr.alloc (.cells #[.slice a14 n14 c14] 50)) :=
                    ⟨hLr.below hba, hKr.D.below hba, HAP.out, HLOW.out, hst, fun r hr => (by cases hr; exact hKr.w.size), hKr.len, by simp, fun x hx => by
                      rw [List.mem_singleton.1 hx, ← hnow, homesB_len]
                      omega, hKr.w.trans (hba.mono hKr.w.size)⟩
                  have HKN := Lib.hid hKn
                  clear hKr hLr hAr hs8 hst hba hKn hbe
                  go_wp2
                  go_roundw
                  case rel => exact ⟨i + 1, by omega, by omega, by go_num, g8, F8, FD, l2, d6, _, rfl, HKN.out, .inl HI2.out, by rw [hcQ]; exact Nat.zero_le _, by simp⟩
                  case measure => simp [intOf]; omega
    · obtain ⟨g, F, FD, l, d, S, rfl, hK, -⟩ := hA
      have HB := Lib.hid hK.w
      obtain ⟨b8, o8, cp8, rfl, -⟩ := hK.st.shape
      clear hK HK3
      by_cases hil : i < ds.length
      · have hd1 : decide (i < ds.length) = true := by simp [hil]
        have hd2 : decide ((i : Int) < 35) = false := by simp; omega
        go_wp2_with (first
          | (go_at_call 29; refine (lives_any _).mono ?_; rintro e w8 ⟨rfl, hb8⟩; have HB8 := Lib.hid (HB.out.trans (hb8.mono HB.out.size)); clear hb8)
          | fail)
        go_ret
        exact ⟨rfl, HB8.out⟩
      · have hd1 : decide (i < ds.length) = false := by simp; omega
        go_wp2_with (first
          | (go_at_call 29; refine (lives_any _).mono ?_; rintro e w8 ⟨rfl, hb8⟩; have HB8 := Lib.hid (HB.out.trans (hb8.mono HB.out.size)); clear hb8)
          | fail)
        go_ret
        exact ⟨rfl, HB8.out⟩
end Go.Proofs.YtbkblhoagfonjaaGreat
