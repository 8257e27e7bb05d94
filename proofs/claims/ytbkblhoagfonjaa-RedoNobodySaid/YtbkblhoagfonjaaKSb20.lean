/- lives, walked. -/
import Derived.Test.YtbkblhoagfonjaaKSb19
/- Open: in plain words; where nothing is opened; a new log. -/
namespace Go.Proofs.Ytbkblhoagfonjaa
open Go.RowKit Go.Tn Go.Tn.Bt Go.Tn.Lp Go.Tn.Dk
def log0 (n ep gen tail : Nat) : Lg := ⟨n, ep, gen, tail, tail, fun _ => none, 0⟩
/-- The log that a disk has; none: its epochs are used up. -/
def openB (d : Dsk) (n : Nat) : Option Lg :=
  if 16777215 ≤ newestB d (2 + n) then none
  else some (replayL (log0 n (newestB d (2 + n) + 1) ((d.head 0).getD hd0).gen ((d.head 0).getD hd0).tail) d (if (d.head 0).isSome = true then ((d.head 0).getD hd0).floor else 1))
theorem hdB_lt {bs : List Nat} {i : Nat} {h : Hd} (hh : hdB bs i = some h) : h.tail < 2 ^ 40 ∧ h.floor < 2 ^ 24 := by
  unfold hdB at hh
  split at hh
  · unfold headP at hh
    split at hh
    · cases hh
      exact ⟨natOf_take_lt _ _, natOf_take_lt _ _⟩
    · cases hh
  · cases hh
theorem head_lt {d : Dsk} {a : Nat} {h : Hd} (hh : d.head a = some h) : h.tail < 2 ^ 40 ∧ h.floor < 2 ^ 24 := by
  have key : d.head a = hdB (d.get a) 0 ∨ d.head a = hdB (d.get (a + 1)) 1 := by
    unfold Dsk.head newer
    split
    · exact .inl rfl
    · rename_i y hy
      split
      · exact .inr hy.symm
      · rename_i x hx
        split
        · exact .inr hy.symm
        · exact .inl hx.symm
  rcases key with e | e
  · rw [e] at hh; exact hdB_lt hh
  · rw [e] at hh; exact hdB_lt hh
theorem headD_lt (d : Dsk) (a : Nat) : ((d.head a).getD hd0).tail < 2 ^ 40 ∧ ((d.head a).getD hd0).floor < 2 ^ 24 := by
  cases hh : d.head a with
  | none => exact ⟨by decide, by decide⟩
  | some h => exact head_lt hh
theorem open_nil (w : World) (n : Int) : Calls Try.prog 9 #[.pointer none, .int .i64 n] w fun e w' => e = .returned (.tuple #[.pointer none, .int .i64 1]) ∧ w' = w := by
  have hsz := size_nil w
  go_enter Try.func9, Try.ntmps9
  go_wp2_with (first
    | (go_at_call 27; refine hsz.mono ?_; rintro e w2 ⟨rfl, hw⟩; obtain rfl := hw.symm; clear hw)
    | fail)
  go_ret2
  exact ⟨rfl, rfl⟩
theorem open_arg {w : World} {FD : Nat → Prop} {p : Nat} {d : Dsk} (hd : DAt w FD p d) (n : Int) (hn : n < 2 ∨ (d.L.length : Int) - 3 < n) : Calls Try.prog 9 #[.pointer (some ⟨p, 0, none⟩), .int .i64 n] w fun e w' => e = .returned (.tuple #[.pointer none, .int .i64 2]) ∧ w' = w := by
  have hsz := size_any hd
  have hlo := hd.ok.lo
  have hhi := hd.ok.hi
  clear hd
  generalize d.L.length = D at *
  have h0 : ((D : Int) == 0) = false := beq_eq_false_iff_ne.2 (by omega)
  have h63 : (D : Int) ≤ 4096 := by omega
  have h1 : (1 : Int) ≤ D := by omega
  by_cases hn2 : n < 2
  · have hd1 : decide (n < 2) = true := by simp [hn2]
    go_enter Try.func9, Try.ntmps9
    go_wp2_with (first
      | (go_at_call 27; refine hsz.mono ?_; rintro e w2 ⟨rfl, hw⟩; obtain rfl := hw.symm; clear hw)
      | fail)
    go_ret2
    exact ⟨rfl, rfl⟩
  · have hd1 : decide (n < 2) = false := by simp; omega
    have hd2 : decide ((D : Int) - 2 - 1 < n) = true := by simp; omega
    go_enter Try.func9, Try.ntmps9
    go_wp2_with (first
      | (go_at_call 27; refine hsz.mono ?_; rintro e w2 ⟨rfl, hw⟩; obtain rfl := hw.symm; clear hw)
      | fail)
    go_ret2
    exact ⟨rfl, rfl⟩
end Go.Proofs.Ytbkblhoagfonjaa

/- Open, walked. -/
namespace Go.Proofs.Ytbkblhoagfonjaa
open Go.RowKit Go.Tn Go.Tn.Bt Go.Tn.Lp Go.Tn.Dk
set_option maxRecDepth 20000 in
set_option maxHeartbeats 4000000 in
theorem open_full {w : World} {FD : Nat → Prop} {p : Nat} {d : Dsk} (hd : DAt w FD p d) (n : Nat) (hn2 : 2 ≤ n) (hnd : n + 3 ≤ d.L.length) (hf : 16777215 ≤ newestB d (2 + n)) :
    Calls Try.prog 9 #[.pointer (some ⟨p, 0, none⟩), .int .i64 n] w fun e w' => e = .returned (.tuple #[.pointer none, .int .i64 8]) ∧ Below w.heap.size w w' := by
  have hsz := size_any hd
  have hlo := hd.ok.lo
  have hhi := hd.ok.hi
  have h0 : ((d.L.length : Int) == 0) = false := beq_eq_false_iff_ne.2 (by omega)
  have h63 : (d.L.length : Int) ≤ 4096 := by omega
  have h1 : (1 : Int) ≤ d.L.length := by omega
  have hd1 : decide ((n : Int) < 2) = false := by simp; omega
  have hd2 : decide ((d.L.length : Int) - 2 - 1 < n) = false := by simp; omega
  have hmap : (w.alloc (.map #[] 0)).heap[w.heap.size]? = some (.map (ents encI []) 0) := heap_alloc_at
  have hz1 : (w.alloc (.map #[] 0)).heap.size = w.heap.size + 1 := by simp
  obtain ⟨w2, hw2⟩ : ∃ w2, (w.alloc (.map #[] 0)).alloc (.cells #[.pointer (some ⟨p, 0, none⟩), .int .i64 (n : Nat), .int .u64 0, .int .u64 0, .int .u64 0, .int .u64 0, .map (some w.heap.size), .int .i64 0] 54) = w2 := ⟨_, rfl⟩
  have hb2 : Below w.heap.size w w2 := by
    rw [← hw2]
    exact ((Below.refl _ _).alloc (Nat.le_refl _) _).alloc (by rw [hz1]; omega) _
  have hz2 : w2.heap.size = w.heap.size + 2 := by rw [← hw2]; simp
  have hL : LAt w2 (fun b => b = w.heap.size ∨ b = w.heap.size + 1) (w.heap.size + 1) p (log0 n 0 0 0) := by
    refine ⟨⟨w.heap.size, [], 0, ?_, ⟨?_, WF.nil 0, (fun e he => by cases he), (fun k hk => absurd rfl hk), .inl rfl⟩, by omega, fun e he => by cases he⟩, .inr rfl, ?_⟩
    · rw [← hw2, ← hz1]
      exact heap_alloc_at
    · rw [← hw2]
      exact heap_alloc_of hmap
    · rintro b (rfl | rfl) <;> omega
  have hnw := newest_any hL (hd.below hb2) (by show n + 3 ≤ _; omega)
  have hln : (log0 n 0 0 0).n = n := rfl
  rw [hln] at hnw
  have hlt := newest_lt hd.ok (2 + n) (by omega)
  have hge : decide (16777215 ≤ newestB d (2 + n)) = true := by simp [hf]
  have hge2 : decide ((16777215 : Int) ≤ (newestB d (2 + n) : Nat)) = true := by simp; omega
  generalize newestB d (2 + n) = nw at *
  have HB2 := Lib.hid hb2
  have HW2 := Lib.hid hw2
  have HZ2 := Lib.hid hz2
  have hmm := @run_makeMap Try.prog
  clear hd hb2 hL hmap hf hz1 hz2 hln
  go_enter Try.func9, Try.ntmps9
  go_upto_region 6 with (first
    | (go_at_call 27; refine hsz.mono ?_; rintro e w2 ⟨rfl, hw⟩; obtain rfl := hw.symm; clear hw)
    | fail)
  clear hw2
  go_wp2_with (first
    | (go_at_call 28; refine hnw.mono ?_; rintro e w3 ⟨rfl, hb3⟩; have HB3 := Lib.hid hb3; clear hb3)
    | fail)
  go_ret2
  exact ⟨rfl, HB2.out.trans (HB3.out.mono HB2.out.size)⟩
set_option maxRecDepth 20000 in
set_option maxHeartbeats 4000000 in
theorem open_main {w : World} {FD : Nat → Prop} {p : Nat} {d : Dsk} (hd : DAt w FD p d) (n : Nat) (hn2 : 2 ≤ n) (hnd : n + 3 ≤ d.L.length) (hn4 : n ≤ 400) (hf : newestB d (2 + n) < 16777215) (l : Lg) (hl : openB d n = some l) :
    Calls Try.prog 9 #[.pointer (some ⟨p, 0, none⟩), .int .i64 n] w fun e w' => ∃ g F, e = .returned (.tuple #[.pointer (some ⟨g, 0, none⟩), .int .i64 0]) ∧ LAt w' F g p l ∧ Below w.heap.size w w' ∧ ∀ b, F b → w.heap.size ≤ b := by
  have hsz := size_any hd
  have hlo := hd.ok.lo
  have hhi := hd.ok.hi
  have h0 : ((d.L.length : Int) == 0) = false := beq_eq_false_iff_ne.2 (by omega)
  have h63 : (d.L.length : Int) ≤ 4096 := by omega
  have h1 : (1 : Int) ≤ d.L.length := by omega
  have hd1 : decide ((n : Int) < 2) = false := by simp; omega
  have hd2 : decide ((d.L.length : Int) - 2 - 1 < n) = false := by simp; omega
  have hmap : (w.alloc (.map #[] 0)).heap[w.heap.size]? = some (.map (ents encI []) 0) := heap_alloc_at
  have hz1 : (w.alloc (.map #[] 0)).heap.size = w.heap.size + 1 := by simp
  obtain ⟨w2, hw2⟩ : ∃ w2, (w.alloc (.map #[] 0)).alloc (.cells #[.pointer (some ⟨p, 0, none⟩), .int .i64 (n : Nat), .int .u64 0, .int .u64 0, .int .u64 0, .int .u64 0, .map (some w.heap.size), .int .i64 0] 54) = w2 := ⟨_, rfl⟩
  have hb2 : Below w.heap.size w w2 := by
    rw [← hw2]
    exact ((Below.refl _ _).alloc (Nat.le_refl _) _).alloc (by rw [hz1]; omega) _
  have hz2 : w2.heap.size = w.heap.size + 2 := by rw [← hw2]; simp
  have hL : LAt w2 (fun b => b = w.heap.size ∨ b = w.heap.size + 1) (w.heap.size + 1) p (log0 n 0 0 0) := by
    refine ⟨⟨w.heap.size, [], 0, ?_, ⟨?_, WF.nil 0, (fun e he => by cases he), (fun k hk => absurd rfl hk), .inl rfl⟩, by omega, fun e he => by cases he⟩, .inr rfl, ?_⟩
    · rw [← hw2, ← hz1]
      exact heap_alloc_at
    · rw [← hw2]
      exact heap_alloc_of hmap
    · rintro b (rfl | rfl) <;> omega
  have hnw := newest_any hL (hd.below hb2) (by show n + 3 ≤ _; omega)
  have hln : (log0 n 0 0 0).n = n := rfl
  rw [hln] at hnw
  have hlt := newest_lt hd.ok (2 + n) (by omega)
  have hge : decide (16777215 ≤ newestB d (2 + n)) = false := by simp [hf]
  have hge2 : decide ((16777215 : Int) ≤ (newestB d (2 + n) : Nat)) = false := by simp; omega
  have hl2 : l = replayL (log0 n (newestB d (2 + n) + 1) ((d.head 0).getD hd0).gen ((d.head 0).getD hd0).tail) d (if (d.head 0).isSome = true then ((d.head 0).getD hd0).floor else 1) := by
    unfold openB at hl
    rw [if_neg (by omega)] at hl
    exact (Option.some.inj hl).symm
  have HLL := Lib.hid hl2
  have htl : ((d.head 0).getD hd0).tail < 2 ^ 41 := Nat.lt_trans (headD_lt d 0).1 (by decide)
  have HDD := Lib.hid hd
  have HLT := Lib.hid hL
  clear hl hl2
  generalize newestB d (2 + n) = nw at *
  have HB2 := Lib.hid hb2
  have HW2 := Lib.hid hw2
  have HZ2 := Lib.hid hz2
  have hmm := @run_makeMap Try.prog
  clear hd hb2 hL hmap hf hz1 hz2 hln
  go_enter Try.func9, Try.ntmps9
  go_upto_region 6 with (first
    | (go_at_call 27; refine hsz.mono ?_; rintro e w2 ⟨rfl, hw⟩; obtain rfl := hw.symm; clear hw)
    | fail)
  clear hw2
  go_upto_region 11 with (first
    | (go_at_call 28; refine hnw.mono ?_; rintro e w3 ⟨rfl, hb3⟩; have HB3 := Lib.hid hb3; clear hb3)
    | fail)
  have hw3 : w2.heap.size ≤ w3.heap.size := HB3.out.size
  have hld := hload_any ((HDD.out.below HB2.out).below HB3.out) 0 (by omega)
  go_wp2_with fail
  refine hld.mono ?_
  rintro e w4 ⟨rfl, hb4⟩
  have HB4 : Hid (Below w2.heap.size w2 w4) := Lib.hid (HB3.out.trans (hb4.mono hw3))
  clear hld hb4
  have hHV : hloadV (d.head 0) = .tuple #[.agg (hdCs ((d.head 0).getD hd0)), .bool (d.head 0).isSome, .int .i64 0] := rfl
  have hfl24 : ((d.head 0).getD hd0).floor < 2 ^ 63 := Nat.lt_trans (headD_lt d 0).2 (by decide)
  rw [hHV]
  clear hHV
  generalize (d.head 0).getD hd0 = X at *
  generalize (d.head 0).isSome = sm at *
  obtain ⟨hg, ht, hf0⟩ := X
  simp only [hdCs_lit] at *
  have hw4 : w2.heap.size ≤ w4.heap.size := HB4.out.size
  have hz2 := HZ2.out
  have hbx : (w4.alloc (.cells #[.int .u64 (hg : Nat), .int .u64 (ht : Nat), .int .u64 (hf0 : Nat)] 69)).heap[w4.heap.size]? = some (.cells #[.int .u64 (hg : Nat), .int .u64 (ht : Nat), .int .u64 (hf0 : Nat)] 69 (0, 0)) := heap_alloc_at
  have hb5 : Below w2.heap.size w2 (w4.alloc (.cells #[.int .u64 (hg : Nat), .int .u64 (ht : Nat), .int .u64 (hf0 : Nat)] 69)) := HB4.out.alloc hw4 _
  have hL5 := HLT.out.below hb5
  have HBX := Lib.hid hbx
  have HB5 := Lib.hid hb5
  have HL5 := Lib.hid hL5
  have hs2 := cell_of (o := 2) hbx rfl
  have hfr2 := free_of (o := 2) hbx
  clear hbx hb5 hL5
  cases sm with
  | true =>
    go_upto_region 16 with fail
    clear hs2 hfr2
    generalize w4.alloc (.cells #[.int .u64 (hg : Nat), .int .u64 (ht : Nat), .int .u64 (hf0 : Nat)] 69) = W at *
    obtain ⟨m9, L9, clk9, hb9, hH9, hmg9, -⟩ := HL5.out.ex
    have hne9 : w4.heap.size ≠ w.heap.size + 1 := by omega
    have hS : W.drew.cell? ⟨w4.heap.size, 0, none⟩ = some (.int .u64 (hg : Nat)) ∧ W.drew.cell? ⟨w4.heap.size, 1, none⟩ = some (.int .u64 (ht : Nat)) := ⟨cell_of (o := 0) HBX.out rfl, cell_of (o := 1) HBX.out rfl⟩
    have g2 := cell_of (o := 2) hb9 rfl
    have g3 := cell_of (o := 3) hb9 rfl
    refine wp_region_x (fun w' => w'.cell? ⟨w4.heap.size, 0, none⟩ = some (.int .u64 (hg : Nat)) ∧ w'.cell? ⟨w4.heap.size, 1, none⟩ = some (.int .u64 (ht : Nat))) [(0, 1), (1, 1), (2, 1), (3, 1), (4, 1), (5, 1), (6, 1), (7, 0), (8, 1), (9, 0), (10, 1), (11, 0), (12, 1), (13, 1), (14, 2), (15, 1), (16, 1), (17, 2), (18, 1), (19, 1), (20, 2), (21, 1), (22, 1), (23, 2)] (by kernel_rfl) (by kernel_rfl) (by intro d v c a w h; cases d <;> exact h) ?_
    have HUN : Hid (IntKind.u64.wrap ((nw : Nat) + 1 : Int) = ((nw + 1 : Nat) : Int)) := Lib.hid (by rw [IntWalk.u64_in _ (by omega)]; omega)
    iterate 7 (refine x_take rfl (fun K hK => ?_); go_simp; refine hK _ ?_; clear hK K)
    rw [HUN.out]
    refine x_read rfl hS (fun w' h => exec_load1 ⟨⟨_, Try.underlying51, rfl⟩⟩ rfl h.1) ?_
    iterate 1 (refine x_take rfl (fun K hK => ?_); go_simp; refine hK _ ?_; clear hK K)
    refine x_read rfl hS (fun w' h => exec_load1 ⟨⟨_, Try.underlying51, rfl⟩⟩ rfl h.2) ?_
    iterate 1 (refine x_take rfl (fun K hK => ?_); go_simp; refine hK _ ?_; clear hK K)
    refine x_read rfl hS (fun w' h => exec_load1 ⟨⟨_, Try.underlying51, rfl⟩⟩ rfl h.2) ?_
    iterate 2 (refine x_take rfl (fun K hK => ?_); go_simp; refine hK _ ?_; clear hK K)
    have f9 := free_of (o := 2) hb9
    have k1 := heap_setCell_at (w := W.drew) (o := 2) (v := .int .u64 ((nw + 1 : Nat) : Int)) hb9
    have m1 : Mod (fun b => b = w.heap.size + 1) W.drew (W.drew.setCell ⟨w.heap.size + 1, 2, none⟩ (.int .u64 ((nw + 1 : Nat) : Int))) := (Mod.refl _ _).setCell _ _ fun _ => rfl
    have s1 := And.intro (cell_mod hS.1 m1 hne9) (cell_mod hS.2 m1 hne9)
    refine x_skipS rfl (exec_store1 (v := .int .u64 ((nw + 1 : Nat) : Int)) ⟨⟨_, Try.underlying51, rfl⟩⟩ (by kernel_rfl) rfl rfl rfl g2 f9) s1 ?_
    generalize W.drew.setCell ⟨w.heap.size + 1, 2, none⟩ (.int .u64 ((nw + 1 : Nat) : Int)) = W1 at *
    iterate 2 (refine x_take rfl (fun K hK => ?_); go_simp; refine hK _ ?_; clear hK K)
    have k2 := heap_setCell_at (o := 3) (v := .int .u64 ((hg : Nat) : Int)) k1
    have m2 : Mod (fun b => b = w.heap.size + 1) W1 (W1.setCell ⟨w.heap.size + 1, 3, none⟩ (.int .u64 ((hg : Nat) : Int))) := (Mod.refl _ _).setCell _ _ fun _ => rfl
    have s2 := And.intro (cell_mod s1.1 m2 hne9) (cell_mod s1.2 m2 hne9)
    refine x_skipS rfl (exec_store1 (v := .int .u64 ((hg : Nat) : Int)) ⟨⟨_, Try.underlying51, rfl⟩⟩ (by kernel_rfl) rfl rfl rfl (cell_of (o := 3) k1 rfl) (free_of k1)) s2 ?_
    generalize W1.setCell ⟨w.heap.size + 1, 3, none⟩ (.int .u64 ((hg : Nat) : Int)) = W2 at *
    iterate 2 (refine x_take rfl (fun K hK => ?_); go_simp; refine hK _ ?_; clear hK K)
    have k3 := heap_setCell_at (o := 4) (v := .int .u64 ((ht : Nat) : Int)) k2
    have m3 : Mod (fun b => b = w.heap.size + 1) W2 (W2.setCell ⟨w.heap.size + 1, 4, none⟩ (.int .u64 ((ht : Nat) : Int))) := (Mod.refl _ _).setCell _ _ fun _ => rfl
    have s3 := And.intro (cell_mod s2.1 m3 hne9) (cell_mod s2.2 m3 hne9)
    refine x_skipS rfl (exec_store1 (v := .int .u64 ((ht : Nat) : Int)) ⟨⟨_, Try.underlying51, rfl⟩⟩ (by kernel_rfl) rfl rfl rfl (cell_of (o := 4) k2 rfl) (free_of k2)) s3 ?_
    generalize W2.setCell ⟨w.heap.size + 1, 4, none⟩ (.int .u64 ((ht : Nat) : Int)) = W3 at *
    iterate 2 (refine x_take rfl (fun K hK => ?_); go_simp; refine hK _ ?_; clear hK K)
    have k4 := heap_setCell_at (o := 5) (v := .int .u64 ((ht : Nat) : Int)) k3
    have m4 : Mod (fun b => b = w.heap.size + 1) W3 (W3.setCell ⟨w.heap.size + 1, 5, none⟩ (.int .u64 ((ht : Nat) : Int))) := (Mod.refl _ _).setCell _ _ fun _ => rfl
    have s4 := And.intro (cell_mod s3.1 m4 hne9) (cell_mod s3.2 m4 hne9)
    refine x_skipS rfl (exec_store1 (v := .int .u64 ((ht : Nat) : Int)) ⟨⟨_, Try.underlying51, rfl⟩⟩ (by kernel_rfl) rfl rfl rfl (cell_of (o := 5) k3 rfl) (free_of k3)) s4 ?_
    generalize W3.setCell ⟨w.heap.size + 1, 5, none⟩ (.int .u64 ((ht : Nat) : Int)) = W4 at *
    refine x_nil ?_
    have m14 : Mod (fun b => b = w.heap.size + 1) W.drew W4 := ((m1.trans m2 (fun _ h => h) fun _ _ h => h).trans m3 (fun _ h => h) fun _ _ h => h).trans m4 (fun _ h => h) fun _ _ h => h
    have q2 : W4.cell? ⟨w4.heap.size, 2, none⟩ = some (.int .u64 (hf0 : Nat)) := cell_mod (w := W.drew) (cell_of (o := 2) HBX.out rfl) m14 hne9
    have hL9 : LAt W4 (fun b => b = w.heap.size ∨ b = w.heap.size + 1) (w.heap.size + 1) p (log0 n (nw + 1) hg ht) := by
      refine ⟨⟨m9, L9, clk9, k4, ?_, hmg9, ?_⟩, .inr rfl, fun b hb => Nat.lt_of_lt_of_le (HL5.out.lt b hb) m14.size⟩
      · refine ⟨m14.heap (w := W4) hH9.blk hmg9, hH9.wf, fun e he => ?_, hH9.all, hH9.fm⟩
        obtain ⟨k, _, b, hk, _⟩ := hH9.key e he
        cases hk
      · intro e he
        obtain ⟨k, _, b, hk, _⟩ := hH9.key e he
        cases hk
    have hD9 : DAt W4 FD p d := ((HDD.out.below HB2.out).below HB5.out).drew.mod m14 fun b hb e => by have := HDD.out.lt b hb; omega
    have hrp := replay_any hL9 hD9 (fun b hb e => by have := HDD.out.lt b e; rcases hb with h | h <;> omega) hn2 hn4 hnd (Nat.le_refl _) (Nat.le_add_right _ _) htl hf0 hfl24
    have HM := Lib.hid m14
    clear k1 k2 k3 k4 m1 m2 m3 m4 m14 s1 s2 s3 s4 hS hb9 hH9 g2 g3 f9 hL9 hD9
    go_wp2_with fail
    refine hrp.mono ?_
    rintro e w9 ⟨rfl, F9, hL9, hm9, hF9⟩
    have HL9 := Lib.hid hL9
    have HM9 := Lib.hid hm9
    have HF9 := Lib.hid hF9
    have hWz : w2.heap.size ≤ W.heap.size := HB5.out.size
    have hWz2 : W.heap.size ≤ W4.heap.size := HM.out.size
    clear hL9 hm9 hF9 hrp
    go_wp2
    go_ret2
    have hlast : l = replayL (log0 n (nw + 1) hg ht) d hf0 := HLL.out
    rw [hlast]
    refine ⟨w.heap.size + 1, F9, rfl, HL9.out, ?_, fun b hb => ?_⟩
    · have h1 : Below w.heap.size w W := HB2.out.trans (HB5.out.mono (by omega))
      have h2 : Below w.heap.size w W4 := h1.drew.trans (HM.out.below (by show w.heap.size ≤ W.heap.size; omega) fun x hx e => by omega)
      exact h2.trans (HM9.out.below (by omega) fun x hx e => by rcases e with e | e <;> omega)
    · rcases HF9.out b hb with (h | h) | h <;> omega
  | false =>
    go_upto_region 16 with fail
    have HBXn : Hid ((w4.alloc (.cells #[.int .u64 (hg : Nat), .int .u64 (ht : Nat), .int .u64 1] 69)).heap[w4.heap.size]? = some (.cells #[.int .u64 (hg : Nat), .int .u64 (ht : Nat), .int .u64 1] 69 (0, 0))) := Lib.hid heap_alloc_at
    have hb5n : Below w2.heap.size w2 (w4.alloc (.cells #[.int .u64 (hg : Nat), .int .u64 (ht : Nat), .int .u64 1] 69)) := HB4.out.alloc hw4 _
    have HL5n := Lib.hid (HLT.out.below hb5n)
    have HB5n := Lib.hid hb5n
    clear hs2 hfr2 HBX HB5 HL5 hb5n
    have HBX := HBXn
    have HB5 := HB5n
    have HL5 := HL5n
    clear HBXn HB5n HL5n
    generalize w4.alloc (.cells #[.int .u64 (hg : Nat), .int .u64 (ht : Nat), .int .u64 1] 69) = W at *
    obtain ⟨m9, L9, clk9, hb9, hH9, hmg9, -⟩ := HL5.out.ex
    have hne9 : w4.heap.size ≠ w.heap.size + 1 := by omega
    have hS : W.drew.cell? ⟨w4.heap.size, 0, none⟩ = some (.int .u64 (hg : Nat)) ∧ W.drew.cell? ⟨w4.heap.size, 1, none⟩ = some (.int .u64 (ht : Nat)) := ⟨cell_of (o := 0) HBX.out rfl, cell_of (o := 1) HBX.out rfl⟩
    have g2 := cell_of (o := 2) hb9 rfl
    have g3 := cell_of (o := 3) hb9 rfl
    refine wp_region_x (fun w' => w'.cell? ⟨w4.heap.size, 0, none⟩ = some (.int .u64 (hg : Nat)) ∧ w'.cell? ⟨w4.heap.size, 1, none⟩ = some (.int .u64 (ht : Nat))) [(0, 1), (1, 1), (2, 1), (3, 1), (4, 1), (5, 1), (6, 1), (7, 0), (8, 1), (9, 0), (10, 1), (11, 0), (12, 1), (13, 1), (14, 2), (15, 1), (16, 1), (17, 2), (18, 1), (19, 1), (20, 2), (21, 1), (22, 1), (23, 2)] (by kernel_rfl) (by kernel_rfl) (by intro d v c a w h; cases d <;> exact h) ?_
    have HUN : Hid (IntKind.u64.wrap ((nw : Nat) + 1 : Int) = ((nw + 1 : Nat) : Int)) := Lib.hid (by rw [IntWalk.u64_in _ (by omega)]; omega)
    iterate 7 (refine x_take rfl (fun K hK => ?_); go_simp; refine hK _ ?_; clear hK K)
    rw [HUN.out]
    refine x_read rfl hS (fun w' h => exec_load1 ⟨⟨_, Try.underlying51, rfl⟩⟩ rfl h.1) ?_
    iterate 1 (refine x_take rfl (fun K hK => ?_); go_simp; refine hK _ ?_; clear hK K)
    refine x_read rfl hS (fun w' h => exec_load1 ⟨⟨_, Try.underlying51, rfl⟩⟩ rfl h.2) ?_
    iterate 1 (refine x_take rfl (fun K hK => ?_); go_simp; refine hK _ ?_; clear hK K)
    refine x_read rfl hS (fun w' h => exec_load1 ⟨⟨_, Try.underlying51, rfl⟩⟩ rfl h.2) ?_
    iterate 2 (refine x_take rfl (fun K hK => ?_); go_simp; refine hK _ ?_; clear hK K)
    have f9 := free_of (o := 2) hb9
    have k1 := heap_setCell_at (w := W.drew) (o := 2) (v := .int .u64 ((nw + 1 : Nat) : Int)) hb9
    have m1 : Mod (fun b => b = w.heap.size + 1) W.drew (W.drew.setCell ⟨w.heap.size + 1, 2, none⟩ (.int .u64 ((nw + 1 : Nat) : Int))) := (Mod.refl _ _).setCell _ _ fun _ => rfl
    have s1 := And.intro (cell_mod hS.1 m1 hne9) (cell_mod hS.2 m1 hne9)
    refine x_skipS rfl (exec_store1 (v := .int .u64 ((nw + 1 : Nat) : Int)) ⟨⟨_, Try.underlying51, rfl⟩⟩ (by kernel_rfl) rfl rfl rfl g2 f9) s1 ?_
    generalize W.drew.setCell ⟨w.heap.size + 1, 2, none⟩ (.int .u64 ((nw + 1 : Nat) : Int)) = W1 at *
    iterate 2 (refine x_take rfl (fun K hK => ?_); go_simp; refine hK _ ?_; clear hK K)
    have k2 := heap_setCell_at (o := 3) (v := .int .u64 ((hg : Nat) : Int)) k1
    have m2 : Mod (fun b => b = w.heap.size + 1) W1 (W1.setCell ⟨w.heap.size + 1, 3, none⟩ (.int .u64 ((hg : Nat) : Int))) := (Mod.refl _ _).setCell _ _ fun _ => rfl
    have s2 := And.intro (cell_mod s1.1 m2 hne9) (cell_mod s1.2 m2 hne9)
    refine x_skipS rfl (exec_store1 (v := .int .u64 ((hg : Nat) : Int)) ⟨⟨_, Try.underlying51, rfl⟩⟩ (by kernel_rfl) rfl rfl rfl (cell_of (o := 3) k1 rfl) (free_of k1)) s2 ?_
    generalize W1.setCell ⟨w.heap.size + 1, 3, none⟩ (.int .u64 ((hg : Nat) : Int)) = W2 at *
    iterate 2 (refine x_take rfl (fun K hK => ?_); go_simp; refine hK _ ?_; clear hK K)
    have k3 := heap_setCell_at (o := 4) (v := .int .u64 ((ht : Nat) : Int)) k2
    have m3 : Mod (fun b => b = w.heap.size + 1) W2 (W2.setCell ⟨w.heap.size + 1, 4, none⟩ (.int .u64 ((ht : Nat) : Int))) := (Mod.refl _ _).setCell _ _ fun _ => rfl
    have s3 := And.intro (cell_mod s2.1 m3 hne9) (cell_mod s2.2 m3 hne9)
    refine x_skipS rfl (exec_store1 (v := .int .u64 ((ht : Nat) : Int)) ⟨⟨_, Try.underlying51, rfl⟩⟩ (by kernel_rfl) rfl rfl rfl (cell_of (o := 4) k2 rfl) (free_of k2)) s3 ?_
    generalize W2.setCell ⟨w.heap.size + 1, 4, none⟩ (.int .u64 ((ht : Nat) : Int)) = W3 at *
    iterate 2 (refine x_take rfl (fun K hK => ?_); go_simp; refine hK _ ?_; clear hK K)
    have k4 := heap_setCell_at (o := 5) (v := .int .u64 ((ht : Nat) : Int)) k3
    have m4 : Mod (fun b => b = w.heap.size + 1) W3 (W3.setCell ⟨w.heap.size + 1, 5, none⟩ (.int .u64 ((ht : Nat) : Int))) := (Mod.refl _ _).setCell _ _ fun _ => rfl
    have s4 := And.intro (cell_mod s3.1 m4 hne9) (cell_mod s3.2 m4 hne9)
    refine x_skipS rfl (exec_store1 (v := .int .u64 ((ht : Nat) : Int)) ⟨⟨_, Try.underlying51, rfl⟩⟩ (by kernel_rfl) rfl rfl rfl (cell_of (o := 5) k3 rfl) (free_of k3)) s4 ?_
    generalize W3.setCell ⟨w.heap.size + 1, 5, none⟩ (.int .u64 ((ht : Nat) : Int)) = W4 at *
    refine x_nil ?_
    have m14 : Mod (fun b => b = w.heap.size + 1) W.drew W4 := ((m1.trans m2 (fun _ h => h) fun _ _ h => h).trans m3 (fun _ h => h) fun _ _ h => h).trans m4 (fun _ h => h) fun _ _ h => h
    have q2 : W4.cell? ⟨w4.heap.size, 2, none⟩ = some (.int .u64 1) := cell_mod (w := W.drew) (cell_of (o := 2) HBX.out rfl) m14 hne9
    have hL9 : LAt W4 (fun b => b = w.heap.size ∨ b = w.heap.size + 1) (w.heap.size + 1) p (log0 n (nw + 1) hg ht) := by
      refine ⟨⟨m9, L9, clk9, k4, ?_, hmg9, ?_⟩, .inr rfl, fun b hb => Nat.lt_of_lt_of_le (HL5.out.lt b hb) m14.size⟩
      · refine ⟨m14.heap (w := W4) hH9.blk hmg9, hH9.wf, fun e he => ?_, hH9.all, hH9.fm⟩
        obtain ⟨k, _, b, hk, _⟩ := hH9.key e he
        cases hk
      · intro e he
        obtain ⟨k, _, b, hk, _⟩ := hH9.key e he
        cases hk
    have hD9 : DAt W4 FD p d := ((HDD.out.below HB2.out).below HB5.out).drew.mod m14 fun b hb e => by have := HDD.out.lt b hb; omega
    have hrp := replay_any hL9 hD9 (fun b hb e => by have := HDD.out.lt b e; rcases hb with h | h <;> omega) hn2 hn4 hnd (Nat.le_refl _) (Nat.le_add_right _ _) htl 1 (by decide)
    rw [show ((1 : Nat) : Int) = 1 from rfl] at hrp
    have HM := Lib.hid m14
    clear k1 k2 k3 k4 m1 m2 m3 m4 m14 s1 s2 s3 s4 hS hb9 hH9 g2 g3 f9 hL9 hD9
    go_wp2_with fail
    refine hrp.mono ?_
    rintro e w9 ⟨rfl, F9, hL9, hm9, hF9⟩
    have HL9 := Lib.hid hL9
    have HM9 := Lib.hid hm9
    have HF9 := Lib.hid hF9
    have hWz : w2.heap.size ≤ W.heap.size := HB5.out.size
    have hWz2 : W.heap.size ≤ W4.heap.size := HM.out.size
    clear hL9 hm9 hF9 hrp
    go_wp2
    go_ret2
    have hlast : l = replayL (log0 n (nw + 1) hg ht) d 1 := HLL.out
    rw [hlast]
    refine ⟨w.heap.size + 1, F9, rfl, HL9.out, ?_, fun b hb => ?_⟩
    · have h1 : Below w.heap.size w W := HB2.out.trans (HB5.out.mono (by omega))
      have h2 : Below w.heap.size w W4 := h1.drew.trans (HM.out.below (by show w.heap.size ≤ W.heap.size; omega) fun x hx e => by omega)
      exact h2.trans (HM9.out.below (by omega) fun x hx e => by rcases e with e | e <;> omega)
    · rcases HF9.out b hb with (h | h) | h <;> omega
end Go.Proofs.Ytbkblhoagfonjaa

/- The document's Copy, Cut, Sector, walked. -/
namespace Go.Proofs.Ytbkblhoagfonjaa
open Go.RowKit Go.Tn Go.Tn.Bt Go.Tn.Lp Go.Tn.Dk
set_option maxRecDepth 20000 in
theorem rcopy_any (w : World) (v : Value) (bs : List Nat) (h : LSl en8 1 w v bs) (hl : bs.length ≤ 50000) : Calls Try.prog 25 #[v] w
    fun e w' => ∃ v', e = .returned v' ∧ LOut en8 1 5 w.heap.size w' v' bs ∧ Below w.heap.size w w' := by
  have hO : LOut en8 1 5 w.heap.size w (.slice none 0 0) ([] : List Nat) := LOut.nil (Nat.le_refl _)
  have hsz : ([] : List Nat).length + bs.length ≤ 100000 := by simp; omega
  have hsl := h
  obtain ⟨ao, cap, rfl, h1, h2, h3⟩ := h
  clear h3
  go_enter Try.func25, Try.ntmps25
  go_wp2_with (first
    | ((with_reducible refine wpList_appendN el8 hO hsl hsz ?_ ?_ ?_); rfl; rfl; (intro v5 w5 hO5 hg5 hl5; have HO5 := Lib.hid hO5; have HG5 := Lib.hid hg5; obtain ⟨a5, n5, c5, rfl⟩ := hO5.shape; clear hO5 hg5 hl5); go_frame)
    | fail)
  go_ret
  have hO5 := HO5.out
  rw [List.nil_append] at hO5
  exact ⟨_, rfl, hO5, (Below.refl _ _).grown HG5.out (Nat.le_refl _) fun k hk => by cases hk⟩
theorem rcut_any (w : World) (v : Value) (bs : List Nat) (h : LSl en8 1 w v bs) (n : Nat) (hn : n ≤ 100000) : Calls Try.prog 26 #[v, .int .i64 n] w
    fun e w' => ∃ v', e = .returned v' ∧ LSl en8 1 w v' (bs.take n) ∧ w' = w := by
  have hsl := h
  obtain ⟨ao, cap, rfl, h1, h2, h3⟩ := h
  unfold maxLen at h2
  clear h3
  have hn63 : (n : Int) ≤ 100000 := by omega
  by_cases hlt : n < bs.length
  · have hd : decide (n < bs.length) = true := by simp [hlt]
    have hnc : (n : Int) ≤ (cap : Int) := by omega
    have ht := hsl.take (i := n) (by omega)
    clear hsl
    go_enter Try.func26, Try.ntmps26
    go_wp2
    go_ret
    exact ⟨_, rfl, ht, rfl⟩
  · have hd : decide (n < bs.length) = false := by simp; omega
    have ht : bs.take n = bs := List.take_of_length_le (by omega)
    rw [ht]
    go_enter Try.func26, Try.ntmps26
    go_wp2
    go_ret
    exact ⟨_, rfl, hsl, rfl⟩
/-- A sector of any bytes: cut, or made up with zeros. -/
def rsecB (bs : List Nat) : List Nat := bs.take 128 ++ List.replicate (128 - bs.length) 0
theorem rsecB_len (bs : List Nat) : (rsecB bs).length = 128 := by unfold rsecB; simp; omega
set_option maxRecDepth 20000 in
theorem rsector_any (w : World) (v : Value) (bs : List Nat) (h : LSl en8 1 w v bs) : Calls Try.prog 24 #[v] w
    fun e w' => ∃ v', e = .returned v' ∧ LOut en8 1 5 w.heap.size w' v' (rsecB bs) ∧ Below w.heap.size w w' := by
  have hcut := rcut_any w v bs h 128 (by omega)
  have hr0 : rsecB bs = bs.take 128 ++ List.replicate (128 - bs.length) 0 := rfl
  go_enter Try.func24, Try.ntmps24
  go_wp2_with (first
    | (go_at_call 26; refine hcut.mono ?_; rintro e w1 ⟨v1, rfl, h1, hw⟩; obtain rfl := hw.symm; clear hw; have hcp := rcopy_any _ _ _ h1 (by simp; omega); go_frame)
    | fail)
  refine hcp.mono ?_
  rintro e w2 ⟨v2, rfl, hO2, hb2⟩
  obtain ⟨a2, n2, c2, rfl⟩ := LOut.shape hO2
  go_wp2
  go_loopw [3] (fun ov wi => ∃ j, bs.length + j ≤ 128 + (bs.length - 128) ∧ LOut en8 1 5 w.heap.size wi ov (bs.take 128 ++ List.replicate j 0) ∧ Below w.heap.size w wi) (fun ov _ => 128 - slLen ov)
  case atStart => exact ⟨0, by omega, by simpa using hO2, hb2⟩
  case round =>
    obtain ⟨j, hj, hO, hb⟩ := hrel
    obtain ⟨cs, hcs⟩ : ∃ cs, bs.take 128 ++ List.replicate j 0 = cs := ⟨_, rfl⟩
    rw [hcs] at hO
    have hcl' : cs.length = min 128 bs.length + j := by rw [← hcs]; simp
    obtain ⟨ao, cap, rfl, hcl, hcm, hcx⟩ := hO.sl el8.len
    clear hcx
    unfold maxLen at hcm
    by_cases hlt : cs.length < 128
    · have hd : decide (cs.length < 128) = true := by simp [hlt]
      have hml : cs.length ≤ 1000 := by omega
      have HCL := Lib.hid hcl'
      have HCS := Lib.hid hcs
      clear hcl' hcs
      go_wp2_with (first
        | ((with_reducible refine wpList_append1 el8 hO 0 hml ?_ ?_ ?_ ?_); rfl; rfl; rfl; (intro v7 w7 hO7 hb7; obtain ⟨a7, n7, c7, rfl⟩ := LOut.shape hO7); go_frame)
        | fail)
      have hcs := HCS.out
      have hcl' := HCL.out
      obtain ⟨_, _, hv7, _, _, _⟩ := hO7.sl el8.len
      obtain ⟨-, rfl, -⟩ : a7 = _ ∧ n7 = (cs ++ [0]).length ∧ c7 = _ := by simpa using hv7
      refine ⟨⟨j + 1, by omega, ?_, hb.trans hb7⟩, by simp [slLen]; omega⟩
      rw [List.replicate_succ', ← List.append_assoc, hcs]
      exact hO7
    · have hd : decide (cs.length < 128) = false := by simp; omega
      go_wp2
      go_ret
      refine ⟨_, rfl, ?_, hb⟩
      have e : rsecB bs = cs := by rw [← hcs]; unfold rsecB; congr 2; omega
      rw [e]
      exact hO
end Go.Proofs.Ytbkblhoagfonjaa

/- What keeps a log sound. -/
namespace Go.Proofs.Ytbkblhoagfonjaa
open Go.RowKit Go.Tn Go.Tn.Bt Go.Tn.Lp Go.Tn.Dk
theorem takeH_some : ∀ (ps : List Pt) (H : Nat → Option (List Nat)) (k : Nat) (b : List Nat), takeH H ps k = some b → (∃ q ∈ ps, q.1 = (k : Int) ∧ q.2 = b) ∨ H k = some b
  | [], H, k, b, h => .inr h
  | q :: ps, H, k, b, h => by
    rcases takeH_some ps _ k b h with ⟨q', h1, h2⟩ | h
    · exact .inl ⟨q', List.mem_cons_of_mem _ h1, h2⟩
    · simp only at h
      split at h
      · rename_i hk
        exact .inl ⟨q, List.mem_cons_self, hk.symm, by simpa using h⟩
      · exact .inr h
theorem takeH_ok {H : Nat → Option (List Nat)} {ps : List Pt} {homes : Nat} (h : ∀ k b, H k = some b → k < homes ∧ secB b) (ht : transB ps homes = true) (hb : ∀ q ∈ ps, ∀ x ∈ q.2, x < 256) : ∀ k b, takeH H ps k = some b → k < homes ∧ secB b := by
  intro k b hk
  rcases takeH_some ps H k b hk with ⟨q, h1, h2, rfl⟩ | hk
  · obtain ⟨-, -, h3, -⟩ := (transB_iff ps homes).1 ht
    obtain ⟨h4, h5, h6⟩ := h3 q h1
    exact ⟨by omega, h6, hb q h1⟩
  · exact h k b hk
theorem decB_byte {B : List Nat} {homes : Nat} {ps : List Pt} (h : decB B homes = some ps) : ∀ q ∈ ps, ∀ x ∈ q.2, x < 256 := by
  unfold decB at h
  split at h
  · cases h
  · rename_i hd
    split at h
    · cases h
      exact fun q hq => ((decGo_le B _ (getA_le _ _ _ (Nat.zero_le _)) _ _ _ _ hd).2.2 q hq).2.2.2
    · cases h
/-- Sound but for the counts' limit. -/
structure _root_.Go.Tn.Dk.Lg.fit (l : Lg) (d : Dsk) : Prop where
  n2 : 2 ≤ l.n
  nd : l.n + 3 ≤ d.L.length
  epoch : l.epoch ≤ 16777215
  gen : l.gen ≤ 1099511627775
  tail : l.tail ≤ l.next
  next : l.next ≤ l.tail + l.n
  err : l.err < 256
  H : ∀ k b, l.H k = some b → k < l.homes d ∧ secB b
theorem _root_.Go.Tn.Dk.Lg.fit.ok {l : Lg} {d : Dsk} (h : l.fit d) (hs : l.next < 1099511627776) : l.ok d := ⟨h.n2, h.nd, h.epoch, h.gen, h.tail, h.next, hs, h.err, h.H⟩
theorem _root_.Go.Tn.Dk.Lg.ok.fit {l : Lg} {d : Dsk} (h : l.ok d) : l.fit d := ⟨h.n2, h.nd, h.epoch, h.gen, h.tail, h.next, h.err, h.H⟩
theorem replay_fit (d : Dsk) : ∀ (fuel : Nat) (l : Lg) (floor : Nat), l.fit d → (replayGo d fuel l floor).fit d
  | 0, l, floor, h => h
  | fuel + 1, l, floor, h => by
    simp only [replayGo]
    cases hj : joinB (l.recordB d floor) with
    | none => exact h
    | some b =>
      simp only
      cases hdc : decB b (l.homes d) with
      | none => exact h
      | some ps =>
        simp only
        have hlen := recordB_len l d floor
        have hf : l.free = l.n - (l.next - l.tail) := rfl
        have h1 := h.tail
        have h2 := h.next
        exact replay_fit d fuel _ _ ⟨h.n2, h.nd, h.epoch, h.gen, by simp only; omega, by simp only; omega, h.err, takeH_ok h.H (decB_trans hdc) (decB_byte hdc)⟩
theorem hdB_gen {bs : List Nat} {i : Nat} {h : Hd} (hb : ∀ x ∈ bs, x < 256) (hh : hdB bs i = some h) : h.gen < 2 ^ 40 := by
  unfold hdB at hh
  split at hh
  · rename_i p hp
    have := (unsealB_ok hb hp).1
    unfold headP at hh
    split at hh
    · cases hh
      simp only
      have := this.2.1
      omega
    · cases hh
  · cases hh
theorem head_gen {d : Dsk} (hd : d.ok) {a : Nat} (ha : a + 1 < d.L.length) {h : Hd} (hh : d.head a = some h) : h.gen < 2 ^ 40 := by
  have key : d.head a = hdB (d.get a) 0 ∨ d.head a = hdB (d.get (a + 1)) 1 := by
    unfold Dsk.head newer
    split
    · exact .inl rfl
    · rename_i y hy
      split
      · exact .inr hy.symm
      · rename_i x hx
        split
        · exact .inr hy.symm
        · exact .inl hx.symm
  rcases key with e | e
  · rw [e] at hh; exact hdB_gen (hd.get (by omega)).2 hh
  · rw [e] at hh; exact hdB_gen (hd.get ha).2 hh
theorem log0_fit {d : Dsk} {n ep gen tail : Nat} (hn2 : 2 ≤ n) (hnd : n + 3 ≤ d.L.length) (he : ep ≤ 16777215) (hg : gen ≤ 1099511627775) : (log0 n ep gen tail).fit d :=
  ⟨hn2, hnd, he, hg, Nat.le_refl _, Nat.le_add_right _ _, by simp [log0], fun k b h => by cases h⟩
theorem open_fit {d : Dsk} (hd : d.ok) {n : Nat} (hn2 : 2 ≤ n) (hnd : n + 3 ≤ d.L.length) {l : Lg} (h : openB d n = some l) : l.fit d := by
  unfold openB at h
  split at h
  · cases h
  · cases h
    refine replay_fit d _ _ _ (log0_fit hn2 hnd (by omega) ?_)
    cases hh : d.head 0 with
    | none => decide
    | some x =>
      have := head_gen hd (by omega) hh
      simp only [Option.getD_some]
      omega
theorem replay_n (d : Dsk) : ∀ (fuel : Nat) (l : Lg) (floor : Nat), (replayGo d fuel l floor).n = l.n
  | 0, l, floor => rfl
  | fuel + 1, l, floor => by
    simp only [replayGo]
    cases hj : joinB (l.recordB d floor) with
    | none => rfl
    | some b =>
      simp only
      cases hdc : decB b (l.homes d) with
      | none => rfl
      | some ps => exact replay_n d fuel _ _
theorem open_n {d : Dsk} {n : Nat} {l : Lg} (h : openB d n = some l) : l.n = n := by
  unfold openB at h
  split at h
  · cases h
  · cases h
    exact replay_n d _ _ _
theorem write_L (d : Dsk) (i : Nat) (b : List Nat) : (d.write i b).L = d.L := by
  unfold Dsk.write
  split
  · exact step_L d
  · exact step_L d
theorem putPcs_L (n : Nat) : ∀ (ps : List Pc) (d : Dsk), (putPcs n ps d).1.L.length = d.L.length
  | [], d => rfl
  | q :: r, d => by
    simp only [putPcs]
    split
    · rw [write_L]
    · rw [putPcs_L n r, write_L]
theorem dead_lt (d : Dsk) : d.dead < 256 := by unfold Dsk.dead; split <;> omega
theorem putPcs_lt (n : Nat) : ∀ (ps : List Pc) (d : Dsk), (putPcs n ps d).2 < 256
  | [], d => by simp [putPcs]
  | q :: r, d => by
    simp only [putPcs]
    split
    · exact dead_lt d
    · exact putPcs_lt n r _
theorem _root_.Go.Tn.Dk.Lg.fit.disk {l : Lg} {d d' : Dsk} (h : l.fit d) (hL : d'.L.length = d.L.length) : l.fit d' :=
  ⟨h.n2, by rw [hL]; exact h.nd, h.epoch, h.gen, h.tail, h.next, h.err, fun k b hk => by
    have := h.H k b hk
    unfold Lg.homes at this ⊢
    rwa [hL]⟩
theorem write_fit {l : Lg} {d : Dsk} {ps : List Pt} (h : l.fit d) (hb : ∀ q ∈ ps, ∀ x ∈ q.2, x < 256) : (l.write d ps).1.fit (l.write d ps).2.1 := by
  unfold Lg.write
  by_cases he : l.err ≠ 0
  · rw [if_pos he]; exact h
  · rw [if_neg he]
    by_cases ht : transB ps (l.homes d) = false
    · rw [if_pos ht]; exact h
    · rw [if_neg ht]
      cases hc : cutB l.epoch l.next (recB ps) with
      | error x => exact h
      | ok pcs =>
        simp only
        by_cases hf : l.free < pcs.length
        · rw [if_pos hf]; exact h
        · rw [if_neg hf]
          have h2 : l.fit (putPcs l.n pcs d).1 := h.disk (putPcs_L _ _ _)
          split
          · exact ⟨h2.n2, h2.nd, h2.epoch, h2.gen, h2.tail, h2.next, putPcs_lt _ _ _, h2.H⟩
          · have hfr : l.free = l.n - (l.next - l.tail) := rfl
            have h3 := h.tail
            have h4 := h.next
            refine ⟨h2.n2, h2.nd, h2.epoch, h2.gen, by simp only; omega, by simp only; omega, h2.err, takeH_ok h2.H ?_ hb⟩
            have e : l.homes (putPcs l.n pcs d).1 = l.homes d := by unfold Lg.homes; rw [putPcs_L]
            refine (congrArg (transB ps) e).trans ?_
            simpa using ht
theorem flush_L (d : Dsk) : d.flush.L.length = d.L.length := by
  unfold Dsk.flush
  split
  · rw [step_L]
  · simp only
    exact laid_len _ _
theorem sync_fit {l : Lg} {d : Dsk} (h : l.fit d) : (l.sync d).1.fit (l.sync d).2 := by
  unfold Lg.sync
  split
  · exact h
  · have h2 : l.fit d.flush := h.disk (flush_L d)
    exact ⟨h2.n2, h2.nd, h2.epoch, h2.gen, h2.tail, h2.next, dead_lt d, h2.H⟩
end Go.Proofs.Ytbkblhoagfonjaa

/- lives: what the model answers. -/
namespace Go.Proofs.Ytbkblhoagfonjaa
open Go.RowKit Go.Tn Go.Tn.Bt Go.Tn.Lp Go.Tn.Dk
def lv0 : Lg := (openB (newD 12) 4).getD (log0 0 0 0 0)
def lvPut : List Pt := [(1, 7 :: List.replicate 127 0)]
def lvW : Lg × Dsk × Nat := lv0.write (newD 12) lvPut
def lvS : Lg × Dsk := lvW.1.sync lvW.2.1
def lv1 : Lg := (openB lvS.2 4).getD (log0 0 0 0 0)
set_option maxRecDepth 100000 in
theorem lv0_ok : (openB (newD 12) 4).isSome = true := by decide +kernel
set_option maxRecDepth 100000 in
theorem lvW_ok : lvW.2.2 = 0 := by decide +kernel
set_option maxRecDepth 100000 in
theorem lvS_ok : lvS.1.err = 0 := by decide +kernel
set_option maxRecDepth 100000 in
theorem lv1_ok : (openB lvS.2 4).isSome = true := by decide +kernel
set_option maxRecDepth 100000 in
theorem lv1_home : lv1.home lvS.2 1 = 7 :: List.replicate 127 0 := by decide +kernel
set_option maxRecDepth 100000 in
theorem lv0_new : newestB (newD 12) 6 < 16777215 := by decide +kernel
set_option maxRecDepth 100000 in
theorem lv0_next : lv0.next < 1099511627776 := by decide +kernel
set_option maxRecDepth 100000 in
theorem lv1_new : newestB lvS.2 6 < 16777215 := by decide +kernel
set_option maxRecDepth 100000 in
theorem lv1_next : lv1.next < 1099511627776 := by decide +kernel
set_option maxRecDepth 100000 in
theorem lvS_L : lvS.2.L.length = 12 := by decide +kernel
theorem lv0_open : openB (newD 12) 4 = some lv0 := by
  have := lv0_ok
  unfold lv0
  cases h : openB (newD 12) 4 with
  | none => rw [h] at this; cases this
  | some l => rfl
theorem lv1_open : openB lvS.2 4 = some lv1 := by
  have := lv1_ok
  unfold lv1
  cases h : openB lvS.2 4 with
  | none => rw [h] at this; cases this
  | some l => rfl
end Go.Proofs.Ytbkblhoagfonjaa

/- lives, walked. -/
namespace Go.Proofs.Ytbkblhoagfonjaa
open Go.RowKit Go.Tn Go.Tn.Bt Go.Tn.Lp Go.Tn.Dk
theorem lv0_lok : lv0.ok (newD 12) := (open_fit (newD_ok (by omega) (by omega)) (n := 4) (by omega) (by simp [newD]) lv0_open).ok lv0_next
theorem lvPut_byte : ∀ q ∈ lvPut, ∀ x ∈ q.2, x < 256 := by decide +kernel
set_option maxRecDepth 20000 in
theorem lives_any (w : World) : Calls Try.prog 16 #[] w fun e w' => e = .returned (.bool true) ∧ Below w.heap.size w w' := by
  go_enter Try.func16, Try.ntmps16
  have hn := newd_any w 12 (by omega) (by omega)
  go_wp2_with fail
  refine hn.mono ?_
  rintro e w1 ⟨p, F, rfl, hD, hb1, hF⟩
  have ho := open_main hD 4 (by omega) (by simp [newD]) (by omega) lv0_new lv0 lv0_open
  clear hn
  go_wp2_with fail
  refine ho.mono ?_
  rintro e w2 ⟨g, G, rfl, hL, hb2, hG⟩
  clear ho
  have hD2 := hD.below hb2
  have hFG : ∀ b, G b → ¬ F b := fun b h1 h2 => absurd (hD.lt b h2) (Nat.not_lt.2 (hG b h1))
  go_wp2_with fail
  have hl7 : LSl en8 1 (w2.alloc (.cells #[.int .u8 7] 5)) (.slice (some ⟨w2.heap.size, 0, none⟩) 1 1) [7] := LSl.lit (w := w2) (x := (7 : Nat)) el8.len 5
  have hb3 : Below w2.heap.size w2 (w2.alloc (.cells #[.int .u8 7] 5)) := (Below.refl _ _).alloc (Nat.le_refl _) _
  have hsc := rsector_any _ _ _ hl7
  refine hsc.mono ?_
  rintro e w4 ⟨v4, rfl, hO4, hb4⟩
  clear hsc hl7
  have hb24 : Below w2.heap.size w2 w4 := hb3.trans (hb4.mono hb3.size)
  obtain ⟨a4, n4, c4, rfl⟩ := LOut.shape hO4
  clear hb3 hb4
  go_wp2_with (first
    | ((with_reducible refine wpList_execW (exec_buildSliceA (k := 2) (cells := #[.int .i64 1, .slice a4 n4 c4]) Try.underlying22 (by kernel_rfl) (by omega) (by omega) rfl ?_) ?_ ?_); rfl; rfl; go_frame)
    | fail)
  have hb5 : Below w2.heap.size w2 (w4.alloc (.cells #[.int .i64 1, .slice a4 n4 c4] 60)) := hb24.alloc hb24.size _
  have hO5 := hO4.below ((Below.refl w4.heap.size w4).alloc (Nat.le_refl _) (.cells #[.int .i64 1, .slice a4 n4 c4] 60))
  have hL5 := hL.below hb5
  have hD5 := hD2.below hb5
  have hGl := hL.lt
  have hFl := hD2.lt
  have hP5 : PtsA (w4.alloc (.cells #[.int .i64 1, .slice a4 n4 c4] 60)) (fun b => G b ∨ F b) (.slice (some ⟨w4.heap.size, 0, none⟩) 1 1) lvPut := by
    refine ⟨[((1, rsecB [7]), (a4, n4, c4))], rfl, LSl.lit (w := w4) (x := (((1, rsecB [7]), (a4, n4, c4)) : Pt × Sv)) elPt.len 60, ?_, ?_⟩
    · intro r hr
      have e : w4.heap.size = r := by cases hr; rfl
      have := hb24.size
      rintro (h | h)
      · have := hGl _ h; omega
      · have := hFl _ h; omega
    · intro x hx
      rw [List.mem_singleton.1 hx]
      refine ⟨hO5.sl el8.len, fun r hr => ?_⟩
      have := hO5.lo r hr
      simp at this
      rintro (h | h)
      · have := hGl _ h; omega
      · have := hFl _ h; omega
  have hwr := gwrite_any hL5 hD5 hFG lv0_lok _ _ hP5 lvPut_byte (by decide) (by decide)
  have HB5 := Lib.hid ((hb1.trans (hb2.mono hb1.size)).trans (hb5.mono (hb1.trans (hb2.mono hb1.size)).size))
  generalize w4.alloc (.cells #[.int .i64 1, .slice a4 n4 c4] 60) = w5 at *
  refine hwr.mono ?_
  clear hwr
  rintro e w6 ⟨rfl, G6, F6, hL6, hD6, hm6, hG6, hF6, hGF6⟩
  rw [show (lv0.write (newD 12) lvPut).2.2 = 0 from lvW_ok]
  have hL6 : LAt w6 G6 g p lvW.1 := hL6
  have hD6 : DAt w6 F6 p lvW.2.1 := hD6
  have hsy := sync_any hL6 hD6 hGF6
  rw [show (lvW.1.sync lvW.2.1).1.err = 0 from lvS_ok] at hsy
  have HB6 : Hid (Below w.heap.size w w6) := Lib.hid (HB5.out.trans (hm6.below HB5.out.size fun x hx hS => by
    rcases hS with h | h
    · have := hG x h; have := hb1.size; omega
    · exact absurd hx (Nat.not_lt.2 (hF x h))))
  have hG6' : ∀ b, G6 b → w.heap.size ≤ b := fun b h => by
    rcases hG6 b h with h | h
    · have := hG b h; have := hb1.size; omega
    · have := HB5.out.size; omega
  have hF6' : ∀ b, F6 b → w.heap.size ≤ b := fun b h => by
    rcases hF6 b h with h | h
    · exact hF b h
    · have := HB5.out.size; omega
  have HG6 := Lib.hid hG6'
  have HF6 := Lib.hid hF6'
  clear hL6 hD6 hm6 hG6 hF6 hGF6 hG6' hF6' hP5 hD5 hL5 hO5 hO4 hb5 hb24 hD2 hL hD hFG hGl hFl hF hG
  go_wp2_with fail
  refine hsy.mono ?_
  clear hsy
  rintro e w7 ⟨rfl, hL7, hD7, hm7⟩
  have hD7 : DAt w7 F6 p lvS.2 := hD7
  have HB7 : Hid (Below w.heap.size w w7) := Lib.hid (HB6.out.trans (hm7.below HB6.out.size fun x hx hS => by
    rcases hS with h | h
    · exact absurd hx (Nat.not_lt.2 (HG6.out x h))
    · exact absurd hx (Nat.not_lt.2 (HF6.out x h))))
  have ho := open_main hD7 4 (by omega) (by rw [lvS_L]; decide) (by omega) lv1_new lv1 lv1_open
  have HD7 := Lib.hid hD7
  clear hL7 hm7 hD7
  go_wp2_with fail
  refine ho.mono ?_
  clear ho
  rintro e w8 ⟨g8, G8, rfl, hL8, hb8, hG8⟩
  have hlok : lv1.ok lvS.2 := (open_fit HD7.out.ok (n := 4) (by omega) (by rw [lvS_L]; decide) lv1_open).ok lv1_next
  have hn4 : lv1.n = 4 := open_n lv1_open
  have hrd := gread_any hL8 (HD7.out.below hb8) hlok 1 (by unfold Lg.homes; rw [lvS_L, hn4]; decide)
  rw [lv1_home] at hrd
  have HB8 := Lib.hid (HB7.out.trans (hb8.mono HB7.out.size))
  clear hL8 hb8 hG8 hlok hn4
  go_wp2_with fail
  refine hrd.mono ?_
  clear hrd
  rintro e w9 ⟨v9, rfl, hv9, hb9⟩
  have HB9 := Lib.hid (HB8.out.trans (hb9.mono HB8.out.size))
  obtain ⟨ao, cap, rfl, h1, h2, h3⟩ := hv9.sl
  obtain ⟨b9, o9, rfl, hl9, hc9⟩ := h3 (by simp)
  have q0 : w9.cell? ⟨b9, o9, none⟩ = some (.int .u8 7) := hc9 0 7 rfl 0 (by simp)
  have hlen : (7 :: List.replicate 127 0 : List Nat).length = 128 := rfl
  rw [hlen]
  clear h1 h2 h3 hv9 hb9 hc9 hlen
  go_wp2
  go_ret
  exact ⟨rfl, HB9.out⟩
end Go.Proofs.Ytbkblhoagfonjaa
