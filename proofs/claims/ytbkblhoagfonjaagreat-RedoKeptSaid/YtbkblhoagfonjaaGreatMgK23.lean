/- The document's Bits, Of, Bytes, Record: walked. -/
import Derived.Test.YtbkblhoagfonjaaGreatMgK7
import Derived.ArgAppend
import Derived.Test.YtbkblhoagfonjaaGreatMgK21
/- A list in a block of one's own, from some place on, a cell each: cut ahead, appended to. -/
namespace Go.Proofs.YtbkblhoagfonjaaGreat
open Go.RowKit Go.Tn
section
variable {P : Program} {w : World} {e t : TypeId}
/-- The list's cells lie from some place on. -/
def Off (e : TypeId) (w : World) (v : Value) (us : List Value) : Prop := ∃ b off cap cur, v = .slice (some ⟨b, off, none⟩) us.length cap ∧ us.length ≤ cap ∧ cap ≤ maxLen ∧ w.heap[b]? = some (.cells cur e (0, 0)) ∧ off + cap ≤ cur.size ∧ ∀ j u, us[j]? = some u → cur[off + j]? = some u
theorem Off.shape {v : Value} {us : List Value} (h : Off e w v us) : ∃ a n c, v = .slice a n c := by
  obtain ⟨b, off, cap, cur, rfl, -⟩ := h
  exact ⟨_, _, _, rfl⟩
theorem Off.kept {w' : World} {v : Value} {us : List Value} (h : Off e w v us) (hb : ∀ r, v.ownBlock = some r → w'.heap[r]? = w.heap[r]?) : Off e w' v us := by
  obtain ⟨b, off, cap, cur, rfl, h1, h2, h3, h4⟩ := h
  exact ⟨b, off, cap, cur, rfl, h1, h2, (hb b rfl).trans h3, h4⟩
theorem Off.lt {v : Value} {us : List Value} (h : Off e w v us) {r : Nat} (hr : v.ownBlock = some r) : r < w.heap.size := by
  obtain ⟨b, off, cap, cur, rfl, h1, h2, h3, h4⟩ := h
  cases hr
  exact lt_of_block h3
theorem Off.mod {w' : World} {S : Nat → Prop} {v : Value} {us : List Value} (h : Off e w v us) (hm : Mod S w w') (hS : ∀ r, v.ownBlock = some r → ¬ S r) : Off e w' v us :=
  h.kept fun r hr => hm.block r (h.lt hr) (hS r hr)
theorem Off.below {w' : World} {v : Value} {us : List Value} (h : Off e w v us) (hb : Below w.heap.size w w') : Off e w' v us :=
  h.kept fun r hr => hb.block r (h.lt hr)
/-- One element, in a block of its own. -/
theorem Off.one {b : Nat} {u : Value} (h : w.heap[b]? = some (.cells #[u] e (0, 0))) : Off e w (.slice (some ⟨b, 0, none⟩) 1 1) [u] :=
  ⟨b, 0, 1, #[u], rfl, Nat.le_refl _, by unfold maxLen; decide, h, by simp, fun j u hj => by
    cases j with
    | zero => simpa using hj
    | succ j => simp at hj⟩
/-- The last one alone. -/
theorem Off.tail {b off n cap : Nat} {us : List Value} (h : Off e w (.slice (some ⟨b, off, none⟩) n cap) us) {u : Value} {us0 : List Value} (hu : us = us0 ++ [u]) : Off e w (.slice (some ⟨b, off + us0.length, none⟩) 1 (cap - us0.length)) [u] := by
  obtain ⟨b', off', cap', cur, hv, h1, h2, h3, h4, h5⟩ := h
  subst hu
  have hl : (us0 ++ [u]).length = us0.length + 1 := by simp
  rw [hl] at h1
  cases hv
  refine ⟨b, off + us0.length, cap - us0.length, cur, rfl, by simp; omega, by omega, h3, by omega, fun j x hj => ?_⟩
  cases j with
  | zero =>
    have hx : u = x := by simpa using hj
    subst hx
    exact h5 us0.length u (by simp)
  | succ j => simp at hj
theorem Off.cell {b off n cap : Nat} {us : List Value} (h : Off e w (.slice (some ⟨b, off, none⟩) n cap) us) {j : Nat} {u : Value} (hj : us[j]? = some u) : w.cell? ⟨b, off + j, none⟩ = some u := by
  obtain ⟨b', off', cap', cur, hv, h1, h2, h3, h4, h5⟩ := h
  cases hv
  exact cell_of h3 (h5 j u hj)
set_option maxHeartbeats 1000000 in
/-- 'append(s, x)'. -/
theorem run_appendOff (hsl : P.underlying t = some (.slice e)) (hinfo : (P.info? e).map (fun i => (i.zero.map (fun z => z.cells.size), i.size, decide (i.bytes ≤ 1000))) = some (some 1, 1, true)) {ty : TypeId} {v u : Value} {us : List Value} (h : Off e w v us) (hsz : us.length ≤ 100000) (hu : u.oneCell' = true) :
    ∃ v' w', (Builtin.append_ #[t, t] ty #[v, .slice (some ⟨w.heap.size, 0, none⟩) 1 1]).run P (w.alloc (.cells #[u] e)) = .ok v' w' ∧ Off e w' v' (us ++ [u]) ∧ Mod (fun b => v.ownBlock = some b) w w' ∧ (v'.ownBlock = v.ownBlock ∨ ∃ r, v'.ownBlock = some r ∧ w.heap.size ≤ r) := by
  obtain ⟨i, hi, hI⟩ : ∃ i, P.info? e = some i ∧ (i.zero.map (fun z => z.cells.size), i.size, decide (i.bytes ≤ 1000)) = (some 1, 1, true) := by
    cases hq : P.info? e with
    | none => simp [hq] at hinfo
    | some i => exact ⟨i, rfl, by simpa [hq] using hinfo⟩
  obtain ⟨hz0, hI⟩ := Prod.mk.inj hI
  obtain ⟨hsize, hby⟩ := Prod.mk.inj hI
  obtain ⟨z, hz, hzs⟩ : ∃ z, i.zero = some z ∧ z.cells.size = 1 := by
    cases hq : i.zero with
    | none => simp [hq] at hz0
    | some z => exact ⟨z, rfl, by simpa [hq] using hz0⟩
  have hby' : i.bytes ≤ 1000 := of_decide_eq_true hby
  have hnew : ∀ j x, [u][j]? = some x → (w.alloc (.cells #[u] e)).cell? ((⟨w.heap.size, 0, none⟩ : Addr).add j) = some x := fun j x hj => by
    cases j with
    | zero =>
      have : u = x := by simpa using hj
      subst this
      rw [addr_add]
      exact cell_of (heap_alloc_at (w := w) (o := .cells #[u] e (0, 0))) (by simp)
    | succ j => simp at hj
  have h' := h
  obtain ⟨b, off, cap, cur, rfl, h1, h2, h3, h4, h5⟩ := h
  have hbl := lt_of_block h3
  have hb1 : (w.alloc (.cells #[u] e)).heap[b]? = some (.cells cur e (0, 0)) := heap_alloc_of h3
  have hm0 : Mod (fun x => (Value.slice (some ⟨b, off, none⟩) us.length cap).ownBlock = some x) w (w.alloc (.cells #[u] e)) := (Mod.refl _ w).alloc _
  by_cases hroom : us.length + 1 ≤ cap
  · have hr := run_append_room_cells (P := P) (w := w.alloc (.cells #[u] e)) t ty e i hsl hi b off us.length cap ⟨w.heap.size, 0, none⟩ 1 1 [u] (by rw [hsize]; rfl) hnew (fun x hx => by rw [List.mem_singleton.1 hx]; exact hu) hroom (fun j hj => by
      rw [hsize, Nat.mul_one]
      have hlt : off + us.length + j < cur.size := by simp at hj; omega
      rw [cell_of hb1 (Array.getElem?_eq_getElem hlt)]
      rfl) (fun j _ => free_of hb1)
    rw [hsize, Nat.mul_one] at hr
    refine ⟨_, _, hr, ⟨b, off, cap, setMany cur (off + us.length) [u], by simp, by simpa using hroom, h2, heap_setCells_at _ _ _ _ hb1, by rw [setMany_size]; exact h4, fun j x hj => ?_⟩, Mod.setCells (S := fun x => (Value.slice (some ⟨b, off, none⟩) us.length cap).ownBlock = some x) (fun _ => rfl) _ _ _ hm0, .inl rfl⟩
    have hjl : j < us.length + 1 := by have := (List.getElem?_eq_some_iff.1 hj).1; simpa using this
    rw [setMany_get _ _ _ _ (by omega)]
    by_cases hjn : j < us.length
    · rw [if_neg (by simp; omega)]
      rw [List.getElem?_append_left hjn] at hj
      exact h5 j x hj
    · obtain rfl : j = us.length := by omega
      rw [if_pos (by simp)]
      rw [List.getElem?_append_right (Nat.le_refl _)] at hj
      simpa using hj
  · obtain ⟨v', w', hr, ⟨hl, hown⟩, hg⟩ := run_append_arg_grows (P := P) (w := w.alloc (.cells #[u] e)) t ty e i z 1 i.bytes hsl hi hz hsize rfl hzs (by decide) ⟨b, off, none⟩ us.length cap us (by simp) (fun j x hj => by
      rw [addr_add]
      exact cell_of hb1 (h5 j x hj)) ⟨w.heap.size, 0, none⟩ 1 1 [u] rfl hnew (by omega) (by unfold maxLen; omega) (by
        have : (us.length + 1) * i.bytes ≤ 100001 * 1000 := Nat.mul_le_mul (by omega) hby'
        omega)
    rcases hown with ⟨-, h0⟩ | ⟨g, cap', cur', rfl, hg0, hgb, e1, e2, e3, e4⟩
    · omega
    · refine ⟨_, _, hr, ⟨g, 0, cap', cur', by simp, by simpa using e1, e2, hgb, by omega, fun j x hj => ?_⟩, hm0.grown hg (fun k hk => by cases hk), .inr ⟨g, rfl, by simp at hg0; omega⟩⟩
      rw [← e4] at hj
      have hjl : j < us.length + 1 := by
        have := (List.getElem?_eq_some_iff.1 hj).1
        simp at this
        omega
      rw [List.getElem?_take_of_lt (by omega)] at hj
      rw [Nat.zero_add]
      simpa using hj
end
end Go.Proofs.YtbkblhoagfonjaaGreat

/- lives: what the model answers. -/
namespace Go.Proofs.YtbkblhoagfonjaaGreat
open Go.RowKit Go.Tn Go.Tn.Bt Go.Tn.Lp Go.Tn.Dk
def lv0 : Lg := (openB (newD 12) 4).getD (log0 0 0 0 0)
def lvPut : List Pt := [(1, 7 :: List.replicate 127 0)]
def lvW : Lg × Dsk × Nat := lv0.write (newD 12) lvPut
def lvS : Lg × Dsk := lvW.1.sync lvW.2.1
def lv1 : Lg := (openB lvS.2 4).getD (log0 0 0 0 0)
set_option maxRecDepth 100000 in
theorem lv0_ok : (openB (newD 12) 4).isSome = true := by decide +kernel
set_option maxRecDepth 100000 in
theorem lvW_ok : lvW.2.2 = 0 := by decide +kernel
set_option maxRecDepth 100000 in
theorem lvS_ok : lvS.1.err = 0 := by decide +kernel
set_option maxRecDepth 100000 in
theorem lv1_ok : (openB lvS.2 4).isSome = true := by decide +kernel
set_option maxRecDepth 100000 in
theorem lv1_home : lv1.home lvS.2 1 = 7 :: List.replicate 127 0 := by decide +kernel
set_option maxRecDepth 100000 in
theorem lv0_new : newestB (newD 12) 6 < 16777215 := by decide +kernel
set_option maxRecDepth 100000 in
theorem lv0_next : lv0.next < 1099511627776 := by decide +kernel
set_option maxRecDepth 100000 in
theorem lv1_new : newestB lvS.2 6 < 16777215 := by decide +kernel
set_option maxRecDepth 100000 in
theorem lv1_next : lv1.next < 1099511627776 := by decide +kernel
set_option maxRecDepth 100000 in
theorem lvS_L : lvS.2.L.length = 12 := by decide +kernel
theorem lv0_open : openB (newD 12) 4 = some lv0 := by
  have := lv0_ok
  unfold lv0
  cases h : openB (newD 12) 4 with
  | none => rw [h] at this; cases this
  | some l => rfl
theorem lv1_open : openB lvS.2 4 = some lv1 := by
  have := lv1_ok
  unfold lv1
  cases h : openB lvS.2 4 with
  | none => rw [h] at this; cases this
  | some l => rfl
end Go.Proofs.YtbkblhoagfonjaaGreat

/- lives, walked. -/
namespace Go.Proofs.YtbkblhoagfonjaaGreat
open Go.RowKit Go.Tn Go.Tn.Bt Go.Tn.Lp Go.Tn.Dk
theorem lv0_lok : lv0.ok (newD 12) := (open_fit (newD_ok (by omega) (by omega)) (n := 4) (by omega) (by simp [newD]) lv0_open).ok lv0_next
theorem lvPut_byte : ∀ q ∈ lvPut, ∀ x ∈ q.2, x < 256 := by decide +kernel
set_option maxRecDepth 20000 in
theorem lives_any (w : World) : Calls Tryz.prog 29 #[] w fun e w' => e = .returned (.bool true) ∧ Below w.heap.size w w' := by
  go_enter Tryz.func29, Tryz.ntmps29
  have hn := newd_any w 12 (by omega) (by omega)
  go_wp2_with fail
  refine hn.mono ?_
  rintro e w1 ⟨p, F, rfl, hD, hb1, hF⟩
  have ho := open_main hD 4 (by omega) (by simp [newD]) (by omega) lv0_new lv0 lv0_open
  clear hn
  go_wp2_with fail
  refine ho.mono ?_
  rintro e w2 ⟨g, G, rfl, hL, hb2, hG⟩
  clear ho
  have hD2 := hD.below hb2
  have hFG : ∀ b, G b → ¬ F b := fun b h1 h2 => absurd (hD.lt b h2) (Nat.not_lt.2 (hG b h1))
  go_wp2_with fail
  have hl7 : LSl en8 1 (w2.alloc (.cells #[.int .u8 7] 5)) (.slice (some ⟨w2.heap.size, 0, none⟩) 1 1) [7] := LSl.lit (w := w2) (x := (7 : Nat)) el8.len 5
  have hb3 : Below w2.heap.size w2 (w2.alloc (.cells #[.int .u8 7] 5)) := (Below.refl _ _).alloc (Nat.le_refl _) _
  have hsc := rsector_any _ _ _ hl7
  refine hsc.mono ?_
  rintro e w4 ⟨v4, rfl, hO4, hb4⟩
  clear hsc hl7
  have hb24 : Below w2.heap.size w2 w4 := hb3.trans (hb4.mono hb3.size)
  obtain ⟨a4, n4, c4, rfl⟩ := LOut.shape hO4
  clear hb3 hb4
  go_wp2_with (first
    | ((with_reducible refine wpList_execW (exec_buildSliceA (k := 2) (cells := #[.int .i64 1, .slice a4 n4 c4]) Tryz.underlying37 (by kernel_rfl) (by omega) (by omega) rfl ?_) ?_ ?_); rfl; rfl; go_frame)
    | fail)
  have hb5 : Below w2.heap.size w2 (w4.alloc (.cells #[.int .i64 1, .slice a4 n4 c4] 96)) := hb24.alloc hb24.size _
  have hO5 := hO4.below ((Below.refl w4.heap.size w4).alloc (Nat.le_refl _) (.cells #[.int .i64 1, .slice a4 n4 c4] 96))
  have hL5 := hL.below hb5
  have hD5 := hD2.below hb5
  have hGl := hL.lt
  have hFl := hD2.lt
  have hP5 : PtsA (w4.alloc (.cells #[.int .i64 1, .slice a4 n4 c4] 96)) (fun b => G b ∨ F b) (.slice (some ⟨w4.heap.size, 0, none⟩) 1 1) lvPut := by
    refine ⟨[((1, rsecB [7]), (a4, n4, c4))], rfl, LSl.lit (w := w4) (x := (((1, rsecB [7]), (a4, n4, c4)) : Pt × Sv)) elPt.len 96, ?_, ?_⟩
    · intro r hr
      have e : w4.heap.size = r := by cases hr; rfl
      have := hb24.size
      rintro (h | h)
      · have := hGl _ h; omega
      · have := hFl _ h; omega
    · intro x hx
      rw [List.mem_singleton.1 hx]
      refine ⟨hO5.sl el8.len, fun r hr => ?_⟩
      have := hO5.lo r hr
      simp at this
      rintro (h | h)
      · have := hGl _ h; omega
      · have := hFl _ h; omega
  have hwr := gwrite_any hL5 hD5 hFG lv0_lok _ _ hP5 lvPut_byte (by decide) (by decide)
  have HB5 := Lib.hid ((hb1.trans (hb2.mono hb1.size)).trans (hb5.mono (hb1.trans (hb2.mono hb1.size)).size))
  generalize w4.alloc (.cells #[.int .i64 1, .slice a4 n4 c4] 96) = w5 at *
  refine hwr.mono ?_
  clear hwr
  rintro e w6 ⟨rfl, G6, F6, hL6, hD6, hm6, hG6, hF6, hGF6⟩
  rw [show (lv0.write (newD 12) lvPut).2.2 = 0 from lvW_ok]
  have hL6 : LAt w6 G6 g p lvW.1 := hL6
  have hD6 : DAt w6 F6 p lvW.2.1 := hD6
  have hsy := sync_any hL6 hD6 hGF6
  rw [show (lvW.1.sync lvW.2.1).1.err = 0 from lvS_ok] at hsy
  have HB6 : Hid (Below w.heap.size w w6) := Lib.hid (HB5.out.trans (hm6.below HB5.out.size fun x hx hS => by
    rcases hS with h | h
    · have := hG x h; have := hb1.size; omega
    · exact absurd hx (Nat.not_lt.2 (hF x h))))
  have hG6' : ∀ b, G6 b → w.heap.size ≤ b := fun b h => by
    rcases hG6 b h with h | h
    · have := hG b h; have := hb1.size; omega
    · have := HB5.out.size; omega
  have hF6' : ∀ b, F6 b → w.heap.size ≤ b := fun b h => by
    rcases hF6 b h with h | h
    · exact hF b h
    · have := HB5.out.size; omega
  have HG6 := Lib.hid hG6'
  have HF6 := Lib.hid hF6'
  clear hL6 hD6 hm6 hG6 hF6 hGF6 hG6' hF6' hP5 hD5 hL5 hO5 hO4 hb5 hb24 hD2 hL hD hFG hGl hFl hF hG
  go_wp2_with fail
  refine hsy.mono ?_
  clear hsy
  rintro e w7 ⟨rfl, hL7, hD7, hm7⟩
  have hD7 : DAt w7 F6 p lvS.2 := hD7
  have HB7 : Hid (Below w.heap.size w w7) := Lib.hid (HB6.out.trans (hm7.below HB6.out.size fun x hx hS => by
    rcases hS with h | h
    · exact absurd hx (Nat.not_lt.2 (HG6.out x h))
    · exact absurd hx (Nat.not_lt.2 (HF6.out x h))))
  have ho := open_main hD7 4 (by omega) (by rw [lvS_L]; decide) (by omega) lv1_new lv1 lv1_open
  have HD7 := Lib.hid hD7
  clear hL7 hm7 hD7
  go_wp2_with fail
  refine ho.mono ?_
  clear ho
  rintro e w8 ⟨g8, G8, rfl, hL8, hb8, hG8⟩
  have hlok : lv1.ok lvS.2 := (open_fit HD7.out.ok (n := 4) (by omega) (by rw [lvS_L]; decide) lv1_open).ok lv1_next
  have hn4 : lv1.n = 4 := open_n lv1_open
  have hrd := gread_any hL8 (HD7.out.below hb8) hlok 1 (by unfold Lg.homes; rw [lvS_L, hn4]; decide)
  rw [lv1_home] at hrd
  have HB8 := Lib.hid (HB7.out.trans (hb8.mono HB7.out.size))
  clear hL8 hb8 hG8 hlok hn4
  go_wp2_with fail
  refine hrd.mono ?_
  clear hrd
  rintro e w9 ⟨v9, rfl, hv9, hb9⟩
  have HB9 := Lib.hid (HB8.out.trans (hb9.mono HB8.out.size))
  obtain ⟨ao, cap, rfl, h1, h2, h3⟩ := hv9.sl
  obtain ⟨b9, o9, rfl, hl9, hc9⟩ := h3 (by simp)
  have q0 : w9.cell? ⟨b9, o9, none⟩ = some (.int .u8 7) := hc9 0 7 rfl 0 (by simp)
  have hlen : (7 :: List.replicate 127 0 : List Nat).length = 128 := rfl
  rw [hlen]
  clear h1 h2 h3 hv9 hb9 hc9 hlen
  go_wp2
  go_ret
  exact ⟨rfl, HB9.out⟩
end Go.Proofs.YtbkblhoagfonjaaGreat

/- The document's Within, Few; the disk's Waits: walked. -/
namespace Go.Proofs.YtbkblhoagfonjaaGreat
open Go.RowKit Go.Tn Go.Tn.Bt Go.Tn.Lp Go.Tn.Dk
def within (x a b : Int) : Int := if x < a then a else if b < x then b else x
theorem within_any (w : World) (x a b : Int) : Calls Tryz.prog 5 #[.int .i64 x, .int .i64 a, .int .i64 b] w fun e w' => e = .returned (.int .i64 (within x a b)) ∧ w' = w := by
  unfold within
  by_cases h1 : x < a
  · have hd1 : decide (x < a) = true := by simp [h1]
    rw [if_pos h1]
    go_enter Tryz.func5, Tryz.ntmps5
    go_wp2
    go_ret
    exact ⟨rfl, rfl⟩
  · have hd1 : decide (x < a) = false := by simp; omega
    rw [if_neg h1]
    by_cases h2 : b < x
    · have hd2 : decide (b < x) = true := by simp [h2]
      rw [if_pos h2]
      go_enter Tryz.func5, Tryz.ntmps5
      go_wp2
      go_ret
      exact ⟨rfl, rfl⟩
    · have hd2 : decide (b < x) = false := by simp; omega
      rw [if_neg h2]
      go_enter Tryz.func5, Tryz.ntmps5
      go_wp2
      go_ret
      exact ⟨rfl, rfl⟩
theorem within_nat (n : Int) {a b : Nat} (h : a ≤ b) : ∃ m : Nat, within n a b = m ∧ a ≤ m ∧ m ≤ b := by
  unfold within
  split
  · exact ⟨a, rfl, Nat.le_refl _, h⟩
  · split
    · exact ⟨b, rfl, h, Nat.le_refl _⟩
    · exact ⟨n.toNat, by omega, by omega, by omega⟩
/-- At most n puts, their data a sector's each, unless odd. -/
def fewP (odd : Bool) (p : Pt) : Pt := (p.1, if odd = true then p.2.take 130 else rsecB p.2)
def fewB (ps : List Pt) (n : Nat) (odd : Bool) : List Pt := (ps.take n).map (fewP odd)
theorem few_snoc {ps : List Pt} {k : Nat} {x : Pt} (odd : Bool) (h : ps[k]? = some x) : (ps.take (k + 1)).map (fewP odd) = (ps.take k).map (fewP odd) ++ [fewP odd x] := by
  rw [take_snoc h, List.map_append]
  rfl
theorem PtsO.shape {B : Nat} {w : World} {v : Value} {ps : List Pt} (h : PtsO B w v ps) : ∃ a n c, v = .slice a n c := by
  obtain ⟨xs, -, hO, -⟩ := h
  exact hO.shape
set_option maxRecDepth 20000 in
set_option maxHeartbeats 4000000 in
theorem few_any (w : World) (v : Value) (ps : List Pt) (hp : PtsI w v ps) (n : Nat) (hn : n ≤ 1000) (odd : Bool) :
    Calls Tryz.prog 10 #[v, .int .i64 n, .bool odd] w fun e w' => ∃ v', e = .returned v' ∧ PtsO w.heap.size w' v' (fewB ps n odd) ∧ Below w.heap.size w w' := by
  obtain ⟨xs, hxs, hL, hD⟩ := hp
  have hxl : xs.length = ps.length := by rw [← hxs]; simp
  obtain ⟨ao, cap, rfl, h1, h2, h3⟩ := hL
  rw [hxl] at h1 h3 ⊢
  unfold maxLen at h2
  have HXS := Lib.hid hxs
  have HD := Lib.hid hD
  have HXL := Lib.hid hxl
  clear hxs hD hxl
  have hn63 : (n : Int) ≤ 1000 := by omega
  have hl63 : (ps.length : Int) ≤ 9223372036854775807 := by omega
  go_enter Tryz.func10, Tryz.ntmps10
  go_wp2_with fail
  go_loopw [7, 8] (fun ov iv wi => ∃ k : Nat, k ≤ ps.length ∧ k ≤ n ∧ iv = .int .i64 k ∧ Below w.heap.size w wi ∧ PtsO w.heap.size wi ov ((ps.take k).map (fewP odd))) (fun _ iv _ => ps.length - (intOf iv).toNat)
  case atStart => exact ⟨0, Nat.zero_le _, Nat.zero_le _, rfl, Below.refl _ _, [], rfl, LOut.nil (Nat.le_refl _), fun x hx => by cases hx⟩
  case round =>
    obtain ⟨k, hk, hkn, rfl, hb, hO⟩ := hrel
    by_cases hkl : k < ps.length ∧ k < n
    · obtain ⟨hkl, hkn'⟩ := hkl
      have hkl' : decide (k < ps.length) = true := by simp [hkl]
      have hkn'' : decide (k < n) = true := by simp [hkn']
      obtain ⟨x, hx⟩ : ∃ x, xs[k]? = some x := ⟨_, List.getElem?_eq_getElem (by rw [HXL.out]; exact hkl)⟩
      obtain ⟨b, off, rfl, hbl, hcells⟩ := h3 (by omega)
      have hlies := (hcells k x hx).below' hb hbl
      have hpx : ps[k]? = some x.1 := by rw [← HXS.out, List.getElem?_map, hx]; rfl
      have hdx := (HD.out x (List.mem_of_getElem? hx)).below hb
      have hsn := few_snoc odd hpx
      obtain ⟨⟨at_, dat⟩, ⟨a1, n1, c1⟩⟩ := x
      have q0 : wr.cell? ⟨b, off + k * 2, none⟩ = some (.int .i64 at_) := hlies 0 (by simp [enPt])
      have q1 : wr.cell? ⟨b, off + k * 2 + 1, none⟩ = some (.slice a1 n1 c1) := hlies 1 (by simp [enPt])
      have hbr : b < wr.heap.size := Nat.lt_of_lt_of_le hbl hb.size
      have hsc := rsector_any wr _ dat hdx
      have HSN := Lib.hid hsn
      have HB := Lib.hid hb
      have HO := Lib.hid hO
      clear hx hcells hlies hpx hsn hb hO
      have hO' := HO.out
      obtain ⟨xs5, hxs5, hO5, hD5⟩ := hO'
      have hx5 : xs5.length = k := by
        have := congrArg List.length hxs5
        rw [List.length_map, List.length_map, List.length_take] at this
        omega
      have hol : xs5.length ≤ 1000000000 := by omega
      obtain ⟨a7, n7, c7, rfl⟩ := hO5.shape
      have HXS5 := Lib.hid hxs5
      have HO5 := Lib.hid hO5
      have HD5 := Lib.hid hD5
      clear hxs5 hO5 hD5 HO hx5
      have hPd : (fewP odd (at_, dat)).2 = if odd = true then dat.take 130 else rsecB dat := rfl
      have hP1 : fewP odd (at_, dat) = (at_, (fewP odd (at_, dat)).2) := rfl
      generalize (fewP odd (at_, dat)).2 = dd at *
      rw [hP1] at HSN
      clear hP1
      have HPD := Lib.hid hPd
      clear hPd
      go_wp2_with fail
      refine hsc.mono ?_
      rintro e w8 ⟨v8, rfl, hO8, hb8⟩
      clear hsc
      obtain ⟨a8, n8, c8, rfl⟩ := LOut.shape hO8
      have q0' : w8.cell? ⟨b, off + k * 2, none⟩ = some (.int .i64 at_) := (hb8.cell (p := ⟨b, off + k * 2, none⟩) hbr).trans q0
      have q1' : w8.cell? ⟨b, off + k * 2 + 1, none⟩ = some (.slice a1 n1 c1) := (hb8.cell (p := ⟨b, off + k * 2 + 1, none⟩) hbr).trans q1
      have hbr8 : b < w8.heap.size := Nat.lt_of_lt_of_le hbr hb8.size
      have hcu := rcut_any w8 _ dat (LSl.below hdx hb8) 130 (by omega)
      have HB8 := Lib.hid hb8
      clear q0 q1 hb8
      have key : ∀ (a9 : Option Addr) (n9 c9 : Nat) (w9 : World), LOut en8 1 5 wr.heap.size w9 (.slice a9 n9 c9) dd → Below wr.heap.size wr w9 → ∀ v w', LOut enPt 2 96 w.heap.size w' v (xs5 ++ [((at_, dd), (a9, n9, c9))]) → Mod (fun b => (Value.slice a7 n7 c7).ownBlock = some b) w9 w' → (v.ownBlock = (Value.slice a7 n7 c7).ownBlock ∨ ∃ r, v.ownBlock = some r ∧ w9.heap.size ≤ r) →
          Below w.heap.size w w' ∧ PtsO w.heap.size w' v ((ps.take (k + 1)).map (fewP odd)) := by
        intro a9 n9 c9 w9 hO9 hb9 v w' hO' hm' hv'
        have hlo := HO5.out.lo
        refine ⟨(HB.out.trans (hb9.mono HB.out.size)).trans (hm'.below (Nat.le_trans HB.out.size hb9.size) fun x hx e => by have := hlo x e; omega), xs5 ++ [((at_, dd), (a9, n9, c9))], ?_, hO', ?_⟩
        · rw [HSN.out, List.map_append, HXS5.out]
          rfl
        · refine DatG.push (HD5.out.below hb9) (HO5.out.below hb9) (hO9.sl el8.len) (fun r hr => ?_) hm' hv'
          have h1 := hO9.lo r hr
          have h2 := hO9.lt hr
          refine ⟨Nat.le_trans HB.out.size h1, h2, fun e => ?_⟩
          have := HO5.out.lt e
          omega
      have HKEY := Lib.hid key
      clear key
      cases odd with
      | false =>
        have hdd : dd = rsecB dat := by rw [HPD.out]; rfl
        rw [← hdd] at hO8
        have HO8 := Lib.hid hO8
        clear hO8 hcu hdd
        go_wp2_with (first
          | ((with_reducible refine wpList_execW (exec_buildSliceA (k := 2) (cells := #[.int .i64 at_, .slice a8 n8 c8]) Tryz.underlying37 (by kernel_rfl) (by omega) (by omega) rfl ?_) ?_ ?_); rfl; rfl; go_frame)
          | ((with_reducible refine wpList_append1Y elPt (HO5.out.below HB8.out) ((at_, dd), (a8, n8, c8)) hol ?_ ?_ ?_ ?_); rfl; rfl; rfl; (intro v9 w9 hO9 hm9 hv9; have HR := Lib.hid (HKEY.out a8 n8 c8 w8 HO8.out HB8.out v9 w9 hO9 hm9 hv9); clear hO9 hm9 hv9); go_frame)
          | fail)
        have hr := HR.out
        go_roundw
        case rel => exact ⟨k + 1, by omega, by omega, by go_num, hr.1, hr.2⟩
        case measure => simp [intOf]; omega
      | true =>
        have hdd : dd = dat.take 130 := by rw [HPD.out]; rfl
        clear hO8
        go_wp2_with fail
        refine hcu.mono ?_
        rintro e w9 ⟨v9, rfl, h9, hw⟩
        obtain rfl := hw.symm
        clear hw hcu
        have hcp := rcopy_any w8 _ _ h9 (by simp; omega)
        rw [← hdd] at hcp
        clear h9 hdd
        go_wp2_with fail
        refine hcp.mono ?_
        rintro e w9 ⟨v9, rfl, hO9, hb9⟩
        obtain ⟨a9, n9, c9, rfl⟩ := LOut.shape hO9
        clear hcp
        have q0 : w9.cell? ⟨b, off + k * 2, none⟩ = some (.int .i64 at_) := (hb9.cell (p := ⟨b, off + k * 2, none⟩) hbr8).trans q0'
        have HO9 := Lib.hid (hO9.mono HB8.out.size)
        have HB9 := Lib.hid (HB8.out.trans (hb9.mono HB8.out.size))
        clear q0' q1' hO9 hb9
        go_wp2_with (first
          | ((with_reducible refine wpList_execW (exec_buildSliceA (k := 2) (cells := #[.int .i64 at_, .slice a9 n9 c9]) Tryz.underlying37 (by kernel_rfl) (by omega) (by omega) rfl ?_) ?_ ?_); rfl; rfl; go_frame)
          | ((with_reducible refine wpList_append1Y elPt (HO5.out.below HB9.out) ((at_, dd), (a9, n9, c9)) hol ?_ ?_ ?_ ?_); rfl; rfl; rfl; (intro v10 w10 hO10 hm10 hv10; have HR := Lib.hid (HKEY.out a9 n9 c9 w9 HO9.out HB9.out v10 w10 hO10 hm10 hv10); clear hO10 hm10 hv10); go_frame)
          | fail)
        have hr := HR.out
        go_roundw
        case rel => exact ⟨k + 1, by omega, by omega, by go_num, hr.1, hr.2⟩
        case measure => simp [intOf]; omega
    · have hfin : (ps.take k).map (fewP odd) = fewB ps n odd := by
        unfold fewB
        congr 1
        by_cases h : k < ps.length
        · rw [show k = n by omega]
        · rw [List.take_of_length_le (by omega), List.take_of_length_le (by omega)]
      obtain ⟨a7, n7, c7, rfl⟩ := hO.shape
      rw [hfin] at hO
      have HO := Lib.hid hO
      have HB := Lib.hid hb
      clear hO hb hfin
      by_cases h1 : k < ps.length
      · have hd1 : decide (k < ps.length) = true := by simp [h1]
        have hd2 : decide (k < n) = false := by simp; omega
        go_wp2
        go_ret
        exact ⟨_, rfl, HO.out, HB.out⟩
      · have hd1 : decide (k < ps.length) = false := by simp; omega
        go_wp2
        go_ret
        exact ⟨_, rfl, HO.out, HB.out⟩
end Go.Proofs.YtbkblhoagfonjaaGreat

/- A new disk's log, in plain words. -/
namespace Go.Proofs.YtbkblhoagfonjaaGreat
open Go.RowKit Go.Tn Go.Tn.Bt Go.Tn.Lp Go.Tn.Dk
theorem newd_get {k i : Nat} (hi : i < k) : (newD k).get i = zeroS := by
  unfold Dsk.get newD seenQ
  simp [hi]
set_option maxRecDepth 100000 in
theorem ends_zero : endsB zeroS = (0, 0) := by decide +kernel
set_option maxRecDepth 100000 in
theorem unseal_zero0 : (unsealB zeroS).map (fun p => (p.ep, p.ct, p.fi, p.la, p.da)) = some (0, 0, false, false, []) := by decide +kernel
theorem unseal_zero : unsealB zeroS = some ⟨0, 0, false, false, []⟩ := by
  have h := unseal_zero0
  cases hu : unsealB zeroS with
  | none => rw [hu] at h; cases h
  | some p =>
    rw [hu] at h
    obtain ⟨a, b, c, d, e⟩ := p
    simp at h
    obtain ⟨rfl, rfl, rfl, rfl, rfl⟩ := h
    rfl
theorem newest_zero (k : Nat) : ∀ j, j ≤ k → newestB (newD k) j = 0
  | 0, _ => rfl
  | j + 1, h => by
    unfold newestB
    rw [newest_zero k j (by omega), newd_get (by omega), ends_zero]
    rfl
theorem hd_zero (i : Nat) : hdB zeroS i = none := by
  unfold hdB
  rw [unseal_zero]
  simp [headP]
theorem head_zero {k a : Nat} (h : a + 1 < k) : (newD k).head a = none := by
  unfold Dsk.head
  rw [newd_get (by omega), newd_get h, hd_zero, hd_zero]
  rfl
theorem rec_zero {k n ep g f : Nat} (hn : 2 ≤ n) (hk : n + 3 ≤ k) : (log0 n ep g 0).recordB (newD k) f = [] := by
  have hp : pieceB (newD k) n 0 = some ⟨0, 0, false, false, []⟩ := by
    unfold pieceB
    rw [Nat.zero_mod, newd_get (by omega), unseal_zero]
    rfl
  unfold Lg.recordB
  have hfr : (log0 n ep g 0).free = (n - 1) + 1 := by
    show n - (0 - 0) = _
    omega
  rw [hfr]
  show recGo (newD k) n 0 f (n - 1 + 1) [] = []
  unfold recGo
  rw [show 0 + ([] : List Pc).length = 0 from rfl, hp]
  simp
theorem open_new {k n : Nat} (hn : 2 ≤ n) (hk : n + 3 ≤ k) : openB (newD k) n = some (log0 n 1 0 0) := by
  unfold openB
  rw [newest_zero k (2 + n) (by omega), if_neg (by omega), head_zero (by omega)]
  simp only [Option.getD_none, Option.isSome_none]
  unfold replayL
  have hh : hd0.gen = 0 ∧ hd0.tail = 0 := ⟨rfl, rfl⟩
  rw [hh.1, hh.2, if_neg (by decide)]
  unfold replayGo
  rw [rec_zero hn hk]
  rfl
end Go.Proofs.YtbkblhoagfonjaaGreat

/- The document's Bits, Of, Bytes, Record: walked. -/
namespace Go.Proofs.YtbkblhoagfonjaaGreat
open Go.RowKit Go.Tn Go.Tn.Bt Go.Tn.Lp Go.Tn.Dk
/-- Bits as numbers. -/
def b01 (l : List Bool) : List Nat := l.map Bool.toNat
theorem bitsN_get (x : Nat) : ∀ (n k : Nat), k < n → (bitsN x n)[k]? = some (x.testBit (n - 1 - k))
  | n + 1, 0, _ => by simp [bitsN]
  | n + 1, k + 1, h => by
    have := bitsN_get x n k (by omega)
    simp only [bitsN, List.getElem?_cons_succ, this]
    rw [show n + 1 - 1 - (k + 1) = n - 1 - k by omega]
set_option maxRecDepth 20000 in
theorem rbits_any (w : World) (x n : Nat) (hx : x < 2 ^ 64) (hn : n ≤ 64) : Calls Tryz.prog 88 #[.int .u64 x, .int .i64 n] w
    fun e w' => ∃ v', e = .returned v' ∧ LOut en8 1 5 w.heap.size w' v' (b01 (bitsN x n)) ∧ Below w.heap.size w w' := by
  have hn63 : (n : Int) ≤ 64 := by omega
  go_enter Tryz.func88, Tryz.ntmps88
  go_wp2
  go_loopw [5, 6] (fun ov iv wi => ∃ k : Nat, k ≤ n ∧ iv = .int .i64 ((n : Int) - 1 - k) ∧ LOut en8 1 5 w.heap.size wi ov (b01 ((bitsN x n).take k)) ∧ Below w.heap.size w wi) (fun _ iv _ => (intOf iv + 1).toNat)
  case atStart => exact ⟨0, Nat.zero_le _, by simp, LOut.nil (Nat.le_refl _), Below.refl _ _⟩
  case round =>
    obtain ⟨k, hk, rfl, hO, hb⟩ := hrel
    by_cases hlt : k < n
    · have hd1 : decide ((0 : Int) ≤ (n : Int) - 1 - k) = true := by simp; omega
      have hsn : b01 ((bitsN x n).take (k + 1)) = b01 ((bitsN x n).take k) ++ [(x.testBit (n - 1 - k)).toNat] := by
        unfold b01
        rw [take_snoc (bitsN_get x n k hlt), List.map_append]
        rfl
      have HSN := Lib.hid hsn
      obtain ⟨ls, hls⟩ : ∃ ls, b01 ((bitsN x n).take k) = ls := ⟨_, rfl⟩
      rw [hls] at hO HSN
      have hll : ls.length = k := by rw [← hls]; unfold b01; rw [List.length_map, List.length_take, bitsN_len]; omega
      obtain ⟨a5, n5, c5, rfl⟩ := LOut.shape hO
      have hi0 : (0 : Int) ≤ (n : Int) - 1 - k := by omega
      have hi1 : (n : Int) - 1 - k ≤ 63 := by omega
      obtain ⟨i, hi⟩ : ∃ i : Nat, (n : Int) - 1 - k = i := ⟨n - 1 - k, by omega⟩
      rw [hi] at hi0 hi1 hd1 ⊢
      have hik : n - 1 - k = i := by omega
      rw [hik] at HSN
      have hbit : bits .and .u64 ((x : Int) / 2 ^ i) 1 = (((x.testBit i).toNat : Nat) : Int) := by
        have h0 : ((x : Int) / 2 ^ i) = ((x / 2 ^ i : Nat) : Int) := by simp
        have h := Bits.bits_and (x / 2 ^ i) 1 (Nat.lt_of_le_of_lt (Nat.div_le_self _ _) hx) (by decide)
        rw [h0]
        refine h.trans ?_
        rw [Nat.and_one_is_mod, Nat.testBit_eq_decide_div_mod_eq]
        have := Nat.mod_lt (x / 2 ^ i) (show 0 < 2 by decide)
        by_cases h1 : x / 2 ^ i % 2 = 1
        · simp [h1]
        · have : x / 2 ^ i % 2 = 0 := by omega
          simp [this]
      have hb1 : (x.testBit i).toNat ≤ 1 := by cases x.testBit i <;> decide
      generalize (x.testBit i).toNat = c at *
      have hb2 : (c : Int) ≤ 1 := by omega
      have hb3 : (c : Int) % 256 = (c : Int) := by omega
      have HO := Lib.hid hO
      have HB := Lib.hid hb
      have HI := Lib.hid hi
      have hml : ls.length ≤ 1000 := by omega
      clear hO hb hls hll hsn hi hik
      go_wp2_with (first
        | ((with_reducible refine wpList_append1 el8 HO.out c hml ?_ ?_ ?_ ?_); rfl; rfl; rfl; (intro v7 w7 hO7 hb7; have HO7 := Lib.hid hO7; have HB7 := Lib.hid hb7; clear hO7 hb7); go_frame)
        | fail)
      have hi := HI.out
      go_roundw
      case rel =>
        refine ⟨k + 1, by omega, ?_, ?_, HB.out.trans HB7.out⟩
        · congr 1
          omega
        · rw [HSN.out]
          exact HO7.out
      case measure => simp [intOf]
    · obtain rfl : k = n := by omega
      have hd1 : decide ((0 : Int) ≤ (k : Int) - 1 - k) = false := by simp; omega
      rw [List.take_of_length_le (by rw [bitsN_len]; exact Nat.le_refl _)] at hO
      have hm1 : (k : Int) - 1 - k = -1 := by omega
      rw [hm1] at hd1 ⊢
      obtain ⟨a5, n5, c5, rfl⟩ := LOut.shape hO
      have HO := Lib.hid hO
      have HB := Lib.hid hb
      clear hO hb
      go_wp2
      go_ret
      exact ⟨_, rfl, HO.out, HB.out⟩
theorem b01_append (a b : List Bool) : b01 (a ++ b) = b01 a ++ b01 b := List.map_append
theorem b01_len (a : List Bool) : (b01 a).length = a.length := List.length_map ..
set_option maxRecDepth 20000 in
theorem rof_any (w : World) (v : Value) (bs : List Nat) (h : LSl en8 1 w v bs) (hb8 : ∀ x ∈ bs, x < 256) (hl : bs.length ≤ 10000) : Calls Tryz.prog 77 #[v] w
    fun e w' => ∃ v', e = .returned v' ∧ LOut en8 1 5 w.heap.size w' v' (b01 (unpack bs)) ∧ Below w.heap.size w w' := by
  obtain ⟨ao, cap, rfl, h1, h2, h3⟩ := h
  unfold maxLen at h2
  have hl63 : (bs.length : Int) ≤ 10000 := by omega
  have HB8 := Lib.hid hb8
  clear hb8
  go_enter Tryz.func77, Tryz.ntmps77
  go_wp2
  go_loopw [3, 4] (fun ov iv wi => ∃ k : Nat, k ≤ bs.length ∧ iv = .int .i64 k ∧ LOut en8 1 5 w.heap.size wi ov (b01 (unpack (bs.take k))) ∧ Below w.heap.size w wi) (fun _ iv _ => bs.length - (intOf iv).toNat)
  case atStart => exact ⟨0, Nat.zero_le _, rfl, LOut.nil (Nat.le_refl _), Below.refl _ _⟩
  case round =>
    obtain ⟨k, hk, rfl, hO, hb⟩ := hrel
    by_cases hlt : k < bs.length
    · have hd1 : decide (k < bs.length) = true := by simp [hlt]
      obtain ⟨b, off, rfl, hbl, hcells⟩ := h3 (by omega)
      have hx : bs[k]? = some bs[k] := List.getElem?_eq_getElem hlt
      have hx8 : bs[k] < 256 := HB8.out _ (List.getElem_mem hlt)
      have q0 := (hcells k _ hx).below' hb hbl 0 (by simp)
      have hsn : b01 (unpack (bs.take (k + 1))) = b01 (unpack (bs.take k)) ++ b01 (bitsN bs[k] 8) := by
        rw [take_snoc hx, unpack_append, b01_append]
        simp [unpack]
      generalize bs[k] = x at *
      simp only [Nat.mul_one, Nat.add_zero] at q0
      have q0 : wr.cell? ⟨b, off + k, none⟩ = some (.int .u8 x) := q0
      have hx63 : (x : Int) ≤ 255 := by omega
      have hx64 : (x : Int) % 18446744073709551616 = (x : Int) := by omega
      have HSN := Lib.hid hsn
      obtain ⟨ls, hls⟩ : ∃ ls, b01 (unpack (bs.take k)) = ls := ⟨_, rfl⟩
      rw [hls] at hO HSN
      have hll : ls.length + (b01 (bitsN x 8)).length ≤ 100000 := by rw [← hls, b01_len, b01_len, unpack_len, bitsN_len, List.length_take]; omega
      obtain ⟨a3, n3, c3, rfl⟩ := LOut.shape hO
      have hbt := rbits_any wr x 8 (by omega) (by omega)
      rw [show ((8 : Nat) : Int) = 8 from rfl] at hbt
      have HO := Lib.hid hO
      have HB := Lib.hid hb
      clear hO hb hls hsn hx hcells
      go_wp2_with fail
      refine hbt.mono ?_
      rintro e w2 ⟨v2, rfl, hO2, hb2⟩
      obtain ⟨a2, n2, c2, rfl⟩ := LOut.shape hO2
      have HO2 := Lib.hid hO2
      have HB2 := Lib.hid hb2
      clear hO2 hb2 hbt q0
      go_wp2_with (first
        | ((with_reducible refine wpList_appendN el8 (HO.out.below HB2.out) (HO2.out.sl el8.len) hll ?_ ?_ ?_); rfl; rfl; (intro v5 w5 hO5 hg5 hl5; have HO5 := Lib.hid hO5; have HG5 := Lib.hid hg5; clear hO5 hg5 hl5); go_frame)
        | fail)
      go_roundw
      case rel =>
        refine ⟨k + 1, by omega, by go_num, by rw [HSN.out]; exact HO5.out, ?_⟩
        exact (HB.out.trans (HB2.out.mono HB.out.size)).grown HG5.out (Nat.le_trans HB.out.size HB2.out.size) (HO.out.lo)
      case measure => simp [intOf]; omega
    · obtain rfl : k = bs.length := by omega
      have hd1 : decide (bs.length < bs.length) = false := by simp
      rw [List.take_length] at hO
      obtain ⟨a3, n3, c3, rfl⟩ := LOut.shape hO
      have HO := Lib.hid hO
      have HB := Lib.hid hb
      clear hO hb
      go_wp2
      go_ret
      exact ⟨_, rfl, HO.out, HB.out⟩
end Go.Proofs.YtbkblhoagfonjaaGreat
