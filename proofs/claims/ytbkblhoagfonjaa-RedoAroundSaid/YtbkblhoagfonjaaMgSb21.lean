/- lives, walked. -/
import Derived.Test.YtbkblhoagfonjaaMgSb20
/- What keeps a log sound. -/
namespace Go.Proofs.Ytbkblhoagfonjaa
open Go.RowKit Go.Tn Go.Tn.Bt Go.Tn.Lp Go.Tn.Dk
theorem takeH_some : ∀ (ps : List Pt) (H : Nat → Option (List Nat)) (k : Nat) (b : List Nat), takeH H ps k = some b → (∃ q ∈ ps, q.1 = (k : Int) ∧ q.2 = b) ∨ H k = some b
  | [], H, k, b, h => .inr h
  | q :: ps, H, k, b, h => by
    rcases takeH_some ps _ k b h with ⟨q', h1, h2⟩ | h
    · exact .inl ⟨q', List.mem_cons_of_mem _ h1, h2⟩
    · simp only at h
      split at h
      · rename_i hk
        exact .inl ⟨q, List.mem_cons_self, hk.symm, by simpa using h⟩
      · exact .inr h
theorem takeH_ok {H : Nat → Option (List Nat)} {ps : List Pt} {homes : Nat} (h : ∀ k b, H k = some b → k < homes ∧ secB b) (ht : transB ps homes = true) (hb : ∀ q ∈ ps, ∀ x ∈ q.2, x < 256) : ∀ k b, takeH H ps k = some b → k < homes ∧ secB b := by
  intro k b hk
  rcases takeH_some ps H k b hk with ⟨q, h1, h2, rfl⟩ | hk
  · obtain ⟨-, -, h3, -⟩ := (transB_iff ps homes).1 ht
    obtain ⟨h4, h5, h6⟩ := h3 q h1
    exact ⟨by omega, h6, hb q h1⟩
  · exact h k b hk
theorem decB_byte {B : List Nat} {homes : Nat} {ps : List Pt} (h : decB B homes = some ps) : ∀ q ∈ ps, ∀ x ∈ q.2, x < 256 := by
  unfold decB at h
  split at h
  · cases h
  · rename_i hd
    split at h
    · cases h
      exact fun q hq => ((decGo_le B _ (getA_le _ _ _ (Nat.zero_le _)) _ _ _ _ hd).2.2 q hq).2.2.2
    · cases h
/-- Sound but for the counts' limit. -/
structure _root_.Go.Tn.Dk.Lg.fit (l : Lg) (d : Dsk) : Prop where
  n2 : 2 ≤ l.n
  nd : l.n + 3 ≤ d.L.length
  epoch : l.epoch ≤ 16777215
  gen : l.gen ≤ 1099511627775
  tail : l.tail ≤ l.next
  next : l.next ≤ l.tail + l.n
  err : l.err < 256
  H : ∀ k b, l.H k = some b → k < l.homes d ∧ secB b
theorem _root_.Go.Tn.Dk.Lg.fit.ok {l : Lg} {d : Dsk} (h : l.fit d) (hs : l.next < 1099511627776) : l.ok d := ⟨h.n2, h.nd, h.epoch, h.gen, h.tail, h.next, hs, h.err, h.H⟩
theorem _root_.Go.Tn.Dk.Lg.ok.fit {l : Lg} {d : Dsk} (h : l.ok d) : l.fit d := ⟨h.n2, h.nd, h.epoch, h.gen, h.tail, h.next, h.err, h.H⟩
theorem replay_fit (d : Dsk) : ∀ (fuel : Nat) (l : Lg) (floor : Nat), l.fit d → (replayGo d fuel l floor).fit d
  | 0, l, floor, h => h
  | fuel + 1, l, floor, h => by
    simp only [replayGo]
    cases hj : joinB (l.recordB d floor) with
    | none => exact h
    | some b =>
      simp only
      cases hdc : decB b (l.homes d) with
      | none => exact h
      | some ps =>
        simp only
        have hlen := recordB_len l d floor
        have hf : l.free = l.n - (l.next - l.tail) := rfl
        have h1 := h.tail
        have h2 := h.next
        exact replay_fit d fuel _ _ ⟨h.n2, h.nd, h.epoch, h.gen, by simp only; omega, by simp only; omega, h.err, takeH_ok h.H (decB_trans hdc) (decB_byte hdc)⟩
theorem hdB_gen {bs : List Nat} {i : Nat} {h : Hd} (hb : ∀ x ∈ bs, x < 256) (hh : hdB bs i = some h) : h.gen < 2 ^ 40 := by
  unfold hdB at hh
  split at hh
  · rename_i p hp
    have := (unsealB_ok hb hp).1
    unfold headP at hh
    split at hh
    · cases hh
      simp only
      have := this.2.1
      omega
    · cases hh
  · cases hh
theorem head_gen {d : Dsk} (hd : d.ok) {a : Nat} (ha : a + 1 < d.L.length) {h : Hd} (hh : d.head a = some h) : h.gen < 2 ^ 40 := by
  have key : d.head a = hdB (d.get a) 0 ∨ d.head a = hdB (d.get (a + 1)) 1 := by
    unfold Dsk.head newer
    split
    · exact .inl rfl
    · rename_i y hy
      split
      · exact .inr hy.symm
      · rename_i x hx
        split
        · exact .inr hy.symm
        · exact .inl hx.symm
  rcases key with e | e
  · rw [e] at hh; exact hdB_gen (hd.get (by omega)).2 hh
  · rw [e] at hh; exact hdB_gen (hd.get ha).2 hh
theorem log0_fit {d : Dsk} {n ep gen tail : Nat} (hn2 : 2 ≤ n) (hnd : n + 3 ≤ d.L.length) (he : ep ≤ 16777215) (hg : gen ≤ 1099511627775) : (log0 n ep gen tail).fit d :=
  ⟨hn2, hnd, he, hg, Nat.le_refl _, Nat.le_add_right _ _, by simp [log0], fun k b h => by cases h⟩
theorem open_fit {d : Dsk} (hd : d.ok) {n : Nat} (hn2 : 2 ≤ n) (hnd : n + 3 ≤ d.L.length) {l : Lg} (h : openB d n = some l) : l.fit d := by
  unfold openB at h
  split at h
  · cases h
  · cases h
    refine replay_fit d _ _ _ (log0_fit hn2 hnd (by omega) ?_)
    cases hh : d.head 0 with
    | none => decide
    | some x =>
      have := head_gen hd (by omega) hh
      simp only [Option.getD_some]
      omega
theorem replay_n (d : Dsk) : ∀ (fuel : Nat) (l : Lg) (floor : Nat), (replayGo d fuel l floor).n = l.n
  | 0, l, floor => rfl
  | fuel + 1, l, floor => by
    simp only [replayGo]
    cases hj : joinB (l.recordB d floor) with
    | none => rfl
    | some b =>
      simp only
      cases hdc : decB b (l.homes d) with
      | none => rfl
      | some ps => exact replay_n d fuel _ _
theorem open_n {d : Dsk} {n : Nat} {l : Lg} (h : openB d n = some l) : l.n = n := by
  unfold openB at h
  split at h
  · cases h
  · cases h
    exact replay_n d _ _ _
theorem write_L (d : Dsk) (i : Nat) (b : List Nat) : (d.write i b).L = d.L := by
  unfold Dsk.write
  split
  · exact step_L d
  · exact step_L d
theorem putPcs_L (n : Nat) : ∀ (ps : List Pc) (d : Dsk), (putPcs n ps d).1.L.length = d.L.length
  | [], d => rfl
  | q :: r, d => by
    simp only [putPcs]
    split
    · rw [write_L]
    · rw [putPcs_L n r, write_L]
theorem dead_lt (d : Dsk) : d.dead < 256 := by unfold Dsk.dead; split <;> omega
theorem putPcs_lt (n : Nat) : ∀ (ps : List Pc) (d : Dsk), (putPcs n ps d).2 < 256
  | [], d => by simp [putPcs]
  | q :: r, d => by
    simp only [putPcs]
    split
    · exact dead_lt d
    · exact putPcs_lt n r _
theorem _root_.Go.Tn.Dk.Lg.fit.disk {l : Lg} {d d' : Dsk} (h : l.fit d) (hL : d'.L.length = d.L.length) : l.fit d' :=
  ⟨h.n2, by rw [hL]; exact h.nd, h.epoch, h.gen, h.tail, h.next, h.err, fun k b hk => by
    have := h.H k b hk
    unfold Lg.homes at this ⊢
    rwa [hL]⟩
theorem write_fit {l : Lg} {d : Dsk} {ps : List Pt} (h : l.fit d) (hb : ∀ q ∈ ps, ∀ x ∈ q.2, x < 256) : (l.write d ps).1.fit (l.write d ps).2.1 := by
  unfold Lg.write
  by_cases he : l.err ≠ 0
  · rw [if_pos he]; exact h
  · rw [if_neg he]
    by_cases ht : transB ps (l.homes d) = false
    · rw [if_pos ht]; exact h
    · rw [if_neg ht]
      cases hc : cutB l.epoch l.next (recB ps) with
      | error x => exact h
      | ok pcs =>
        simp only
        by_cases hf : l.free < pcs.length
        · rw [if_pos hf]; exact h
        · rw [if_neg hf]
          have h2 : l.fit (putPcs l.n pcs d).1 := h.disk (putPcs_L _ _ _)
          split
          · exact ⟨h2.n2, h2.nd, h2.epoch, h2.gen, h2.tail, h2.next, putPcs_lt _ _ _, h2.H⟩
          · have hfr : l.free = l.n - (l.next - l.tail) := rfl
            have h3 := h.tail
            have h4 := h.next
            refine ⟨h2.n2, h2.nd, h2.epoch, h2.gen, by simp only; omega, by simp only; omega, h2.err, takeH_ok h2.H ?_ hb⟩
            have e : l.homes (putPcs l.n pcs d).1 = l.homes d := by unfold Lg.homes; rw [putPcs_L]
            refine (congrArg (transB ps) e).trans ?_
            simpa using ht
theorem flush_L (d : Dsk) : d.flush.L.length = d.L.length := by
  unfold Dsk.flush
  split
  · rw [step_L]
  · simp only
    exact laid_len _ _
theorem sync_fit {l : Lg} {d : Dsk} (h : l.fit d) : (l.sync d).1.fit (l.sync d).2 := by
  unfold Lg.sync
  split
  · exact h
  · have h2 : l.fit d.flush := h.disk (flush_L d)
    exact ⟨h2.n2, h2.nd, h2.epoch, h2.gen, h2.tail, h2.next, dead_lt d, h2.H⟩
end Go.Proofs.Ytbkblhoagfonjaa

/- lives: what the model answers. -/
namespace Go.Proofs.Ytbkblhoagfonjaa
open Go.RowKit Go.Tn Go.Tn.Bt Go.Tn.Lp Go.Tn.Dk
def lv0 : Lg := (openB (newD 12) 4).getD (log0 0 0 0 0)
def lvPut : List Pt := [(1, 7 :: List.replicate 127 0)]
def lvW : Lg × Dsk × Nat := lv0.write (newD 12) lvPut
def lvS : Lg × Dsk := lvW.1.sync lvW.2.1
def lv1 : Lg := (openB lvS.2 4).getD (log0 0 0 0 0)
set_option maxRecDepth 100000 in
theorem lv0_ok : (openB (newD 12) 4).isSome = true := by decide +kernel
set_option maxRecDepth 100000 in
theorem lvW_ok : lvW.2.2 = 0 := by decide +kernel
set_option maxRecDepth 100000 in
theorem lvS_ok : lvS.1.err = 0 := by decide +kernel
set_option maxRecDepth 100000 in
theorem lv1_ok : (openB lvS.2 4).isSome = true := by decide +kernel
set_option maxRecDepth 100000 in
theorem lv1_home : lv1.home lvS.2 1 = 7 :: List.replicate 127 0 := by decide +kernel
set_option maxRecDepth 100000 in
theorem lv0_new : newestB (newD 12) 6 < 16777215 := by decide +kernel
set_option maxRecDepth 100000 in
theorem lv0_next : lv0.next < 1099511627776 := by decide +kernel
set_option maxRecDepth 100000 in
theorem lv1_new : newestB lvS.2 6 < 16777215 := by decide +kernel
set_option maxRecDepth 100000 in
theorem lv1_next : lv1.next < 1099511627776 := by decide +kernel
set_option maxRecDepth 100000 in
theorem lvS_L : lvS.2.L.length = 12 := by decide +kernel
theorem lv0_open : openB (newD 12) 4 = some lv0 := by
  have := lv0_ok
  unfold lv0
  cases h : openB (newD 12) 4 with
  | none => rw [h] at this; cases this
  | some l => rfl
theorem lv1_open : openB lvS.2 4 = some lv1 := by
  have := lv1_ok
  unfold lv1
  cases h : openB lvS.2 4 with
  | none => rw [h] at this; cases this
  | some l => rfl
end Go.Proofs.Ytbkblhoagfonjaa

/- lives, walked. -/
namespace Go.Proofs.Ytbkblhoagfonjaa
open Go.RowKit Go.Tn Go.Tn.Bt Go.Tn.Lp Go.Tn.Dk
theorem lv0_lok : lv0.ok (newD 12) := (open_fit (newD_ok (by omega) (by omega)) (n := 4) (by omega) (by simp [newD]) lv0_open).ok lv0_next
theorem lvPut_byte : ∀ q ∈ lvPut, ∀ x ∈ q.2, x < 256 := by decide +kernel
set_option maxRecDepth 20000 in
theorem lives_any (w : World) : Calls Try.prog 16 #[] w fun e w' => e = .returned (.bool true) ∧ Below w.heap.size w w' := by
  go_enter Try.func16, Try.ntmps16
  have hn := newd_any w 12 (by omega) (by omega)
  go_wp2_with fail
  refine hn.mono ?_
  rintro e w1 ⟨p, F, rfl, hD, hb1, hF⟩
  have ho := open_main hD 4 (by omega) (by simp [newD]) (by omega) lv0_new lv0 lv0_open
  clear hn
  go_wp2_with fail
  refine ho.mono ?_
  rintro e w2 ⟨g, G, rfl, hL, hb2, hG⟩
  clear ho
  have hD2 := hD.below hb2
  have hFG : ∀ b, G b → ¬ F b := fun b h1 h2 => absurd (hD.lt b h2) (Nat.not_lt.2 (hG b h1))
  go_wp2_with fail
  have hl7 : LSl en8 1 (w2.alloc (.cells #[.int .u8 7] 5)) (.slice (some ⟨w2.heap.size, 0, none⟩) 1 1) [7] := LSl.lit (w := w2) (x := (7 : Nat)) el8.len 5
  have hb3 : Below w2.heap.size w2 (w2.alloc (.cells #[.int .u8 7] 5)) := (Below.refl _ _).alloc (Nat.le_refl _) _
  have hsc := rsector_any _ _ _ hl7
  refine hsc.mono ?_
  rintro e w4 ⟨v4, rfl, hO4, hb4⟩
  clear hsc hl7
  have hb24 : Below w2.heap.size w2 w4 := hb3.trans (hb4.mono hb3.size)
  obtain ⟨a4, n4, c4, rfl⟩ := LOut.shape hO4
  clear hb3 hb4
  go_wp2_with (first
    | ((with_reducible refine wpList_execW (exec_buildSliceA (k := 2) (cells := #[.int .i64 1, .slice a4 n4 c4]) Try.underlying22 (by kernel_rfl) (by omega) (by omega) rfl ?_) ?_ ?_); rfl; rfl; go_frame)
    | fail)
  have hb5 : Below w2.heap.size w2 (w4.alloc (.cells #[.int .i64 1, .slice a4 n4 c4] 60)) := hb24.alloc hb24.size _
  have hO5 := hO4.below ((Below.refl w4.heap.size w4).alloc (Nat.le_refl _) (.cells #[.int .i64 1, .slice a4 n4 c4] 60))
  have hL5 := hL.below hb5
  have hD5 := hD2.below hb5
  have hGl := hL.lt
  have hFl := hD2.lt
  have hP5 : PtsA (w4.alloc (.cells #[.int .i64 1, .slice a4 n4 c4] 60)) (fun b => G b ∨ F b) (.slice (some ⟨w4.heap.size, 0, none⟩) 1 1) lvPut := by
    refine ⟨[((1, rsecB [7]), (a4, n4, c4))], rfl, LSl.lit (w := w4) (x := (((1, rsecB [7]), (a4, n4, c4)) : Pt × Sv)) elPt.len 60, ?_, ?_⟩
    · intro r hr
      have e : w4.heap.size = r := by cases hr; rfl
      have := hb24.size
      rintro (h | h)
      · have := hGl _ h; omega
      · have := hFl _ h; omega
    · intro x hx
      rw [List.mem_singleton.1 hx]
      refine ⟨hO5.sl el8.len, fun r hr => ?_⟩
      have := hO5.lo r hr
      simp at this
      rintro (h | h)
      · have := hGl _ h; omega
      · have := hFl _ h; omega
  have hwr := gwrite_any hL5 hD5 hFG lv0_lok _ _ hP5 lvPut_byte (by decide) (by decide)
  have HB5 := Lib.hid ((hb1.trans (hb2.mono hb1.size)).trans (hb5.mono (hb1.trans (hb2.mono hb1.size)).size))
  generalize w4.alloc (.cells #[.int .i64 1, .slice a4 n4 c4] 60) = w5 at *
  refine hwr.mono ?_
  clear hwr
  rintro e w6 ⟨rfl, G6, F6, hL6, hD6, hm6, hG6, hF6, hGF6⟩
  rw [show (lv0.write (newD 12) lvPut).2.2 = 0 from lvW_ok]
  have hL6 : LAt w6 G6 g p lvW.1 := hL6
  have hD6 : DAt w6 F6 p lvW.2.1 := hD6
  have hsy := sync_any hL6 hD6 hGF6
  rw [show (lvW.1.sync lvW.2.1).1.err = 0 from lvS_ok] at hsy
  have HB6 : Hid (Below w.heap.size w w6) := Lib.hid (HB5.out.trans (hm6.below HB5.out.size fun x hx hS => by
    rcases hS with h | h
    · have := hG x h; have := hb1.size; omega
    · exact absurd hx (Nat.not_lt.2 (hF x h))))
  have hG6' : ∀ b, G6 b → w.heap.size ≤ b := fun b h => by
    rcases hG6 b h with h | h
    · have := hG b h; have := hb1.size; omega
    · have := HB5.out.size; omega
  have hF6' : ∀ b, F6 b → w.heap.size ≤ b := fun b h => by
    rcases hF6 b h with h | h
    · exact hF b h
    · have := HB5.out.size; omega
  have HG6 := Lib.hid hG6'
  have HF6 := Lib.hid hF6'
  clear hL6 hD6 hm6 hG6 hF6 hGF6 hG6' hF6' hP5 hD5 hL5 hO5 hO4 hb5 hb24 hD2 hL hD hFG hGl hFl hF hG
  go_wp2_with fail
  refine hsy.mono ?_
  clear hsy
  rintro e w7 ⟨rfl, hL7, hD7, hm7⟩
  have hD7 : DAt w7 F6 p lvS.2 := hD7
  have HB7 : Hid (Below w.heap.size w w7) := Lib.hid (HB6.out.trans (hm7.below HB6.out.size fun x hx hS => by
    rcases hS with h | h
    · exact absurd hx (Nat.not_lt.2 (HG6.out x h))
    · exact absurd hx (Nat.not_lt.2 (HF6.out x h))))
  have ho := open_main hD7 4 (by omega) (by rw [lvS_L]; decide) (by omega) lv1_new lv1 lv1_open
  have HD7 := Lib.hid hD7
  clear hL7 hm7 hD7
  go_wp2_with fail
  refine ho.mono ?_
  clear ho
  rintro e w8 ⟨g8, G8, rfl, hL8, hb8, hG8⟩
  have hlok : lv1.ok lvS.2 := (open_fit HD7.out.ok (n := 4) (by omega) (by rw [lvS_L]; decide) lv1_open).ok lv1_next
  have hn4 : lv1.n = 4 := open_n lv1_open
  have hrd := gread_any hL8 (HD7.out.below hb8) hlok 1 (by unfold Lg.homes; rw [lvS_L, hn4]; decide)
  rw [lv1_home] at hrd
  have HB8 := Lib.hid (HB7.out.trans (hb8.mono HB7.out.size))
  clear hL8 hb8 hG8 hlok hn4
  go_wp2_with fail
  refine hrd.mono ?_
  clear hrd
  rintro e w9 ⟨v9, rfl, hv9, hb9⟩
  have HB9 := Lib.hid (HB8.out.trans (hb9.mono HB8.out.size))
  obtain ⟨ao, cap, rfl, h1, h2, h3⟩ := hv9.sl
  obtain ⟨b9, o9, rfl, hl9, hc9⟩ := h3 (by simp)
  have q0 : w9.cell? ⟨b9, o9, none⟩ = some (.int .u8 7) := hc9 0 7 rfl 0 (by simp)
  have hlen : (7 :: List.replicate 127 0 : List Nat).length = 128 := rfl
  rw [hlen]
  clear h1 h2 h3 hv9 hb9 hc9 hlen
  go_wp2
  go_ret
  exact ⟨rfl, HB9.out⟩
end Go.Proofs.Ytbkblhoagfonjaa
