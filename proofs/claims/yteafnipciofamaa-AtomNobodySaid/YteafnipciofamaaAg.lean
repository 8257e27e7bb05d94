/- Trees: a block is written; how many there are; what lives. -/
import Derived.Test.YteafnipciofamaaAf
namespace Go.Proofs.Yteafnipciofamaa
open Go.RowKit Go.Tn Go.Tn.Names

section
variable {w : World} {t mn mm : Nat} {L : Ents Fi} {c : Nat} {M : Ents Int} {d : Nat}
theorem block_yes (h : Tr w t mn mm L c M d) (i g k : Int) {r : Nat} (hg : Go.Tn.get (i, g) L = some (.pointer (some ⟨r, 0, none⟩))) (hk : w.cell? ⟨r, 0, none⟩ = some (.int .i64 2)) (h0 : 0 ≤ k) (h8 : k < 8) :
    Calls Try.prog 13 #[.pointer (some ⟨t, 0, none⟩), .agg #[.int .i64 i, .int .i64 g], .int .i64 k] w
    fun e w' => e = .returned (.pointer (some ⟨r, 0, none⟩)) ∧ Below w.heap.size w w' := by
  have hb : Below w.heap.size w (w.alloc (.cells #[.int .i64 i, .int .i64 g] 23)) := (Below.refl _ _).alloc (Nat.le_refl _) _
  have h1 := h.below hb
  have hk1 := (hb.cell (p := ⟨r, 0, none⟩) (World.block_lt_of_cell? w _ hk)).trans hk
  have hok := ok_yes h1
  have hof := of_yes h1 i g 2 hg hk1
  clear h h1 hk hk1 hg
  go_enter Try.func13, Try.ntmps13
  go_wp2_with fail
  refine hok.mono ?_
  rintro e w2 ⟨rfl, hw⟩
  obtain rfl := hw.symm
  clear hw hok
  go_wp2_with fail
  refine hof.mono ?_
  rintro e w2 ⟨rfl, hb2⟩
  go_wp2
  go_ret
  exact ⟨rfl, hb.trans (hb2.mono hb.size)⟩
theorem write_yes (h : Tr w t mn mm L c M d) (i g : Int) {r mr : Nat} (hg : Go.Tn.get (i, g) L = some (.pointer (some ⟨r, 0, none⟩))) (hn : w.heap[r]? = some (.cells (freshCs 2 mr) 51 (0, 0))) (s : ByteArray) :
    Calls Try.prog 8 #[.pointer (some ⟨t, 0, none⟩), .agg #[.int .i64 i, .int .i64 g], .int .i64 1, .string s] w
    fun e w' => e = .returned (.bool true) ∧ Mod (fun x => x = r) w w' := by
  have hb : Below w.heap.size w (w.alloc (.cells #[.int .i64 i, .int .i64 g] 23)) := (Below.refl _ _).alloc (Nat.le_refl _) _
  have h1 := h.below hb
  have hn1 := heap_alloc_of (o := .cells #[.int .i64 i, .int .i64 g] 23) hn
  have hbl := block_yes h1 i g 1 hg (cell_of hn1 rfl) (by decide) (by decide)
  have hlt := lt_of_block hn1
  clear h h1 hg hn
  go_enter Try.func8, Try.ntmps8
  go_wp2_with fail
  refine hbl.mono ?_
  rintro e w2 ⟨rfl, hb2⟩
  have hn2 := (hb2.block _ hlt).trans hn1
  have hc : w2.cell? ⟨r, 3, none⟩ = some (.string ⟨#[]⟩) := cell_of hn2 rfl
  have hf : w2.frozen? ⟨r, 3, none⟩ = false := free_of hn2
  have hm2 : Mod (fun x => x = r) w w2 := ((Mod.of_below (hb.trans (hb2.mono hb.size))).mono (T := fun x => x = r) fun x hx h => absurd h (Nat.not_le.2 hx))
  clear hb2 hb hn1 hn2 hlt hbl
  go_wp2
  go_ret
  exact ⟨rfl, hm2.setCell _ _ fun _ => rfl⟩
set_option maxRecDepth 20000 in
theorem len_yes (h : Tr w t mn mm L c M d) : Calls Try.prog 10 #[.pointer (some ⟨t, 0, none⟩)] w
    fun e w' => e = .returned (.int .i64 (ents encF L).size) ∧ w' = w := by
  have hok := ok_yes h
  have c0 := h.c0
  have hmn := h.nodes
  have HM := Lib.hid hmn
  clear h hmn
  go_enter Try.func10, Try.ntmps10
  go_wp2_with fail
  refine hok.mono ?_
  rintro e w2 ⟨rfl, hw⟩
  obtain rfl := hw.symm
  clear hw hok
  go_wp2_with (first
    | ((with_reducible refine wpList_exec rfl (exec_lenMap Try.underlying28 HM.out ?_) ?_); rfl; go_frame)
    | fail)
  go_ret
  exact ⟨rfl, rfl⟩
end
theorem okA : isName (bs ⟨#[97]⟩) = true := by decide
set_option maxRecDepth 20000 in
theorem lives_any (w : World) : Calls Try.prog 11 #[] w fun e w' => e = .returned (.bool true) ∧ Below w.heap.size w w' := by
  go_enter Try.func11, Try.ntmps11
  go_wp2_with fail
  refine (new_any w).mono ?_
  rintro e w1 ⟨t, mn, mm, r, mr, rfl, h1, hn1, d1, d2, d3, d4, d5, hb1⟩
  have htl := lt_of_block h1.blk
  have hz1 := hb1.size
  have hbA : Below w1.heap.size w1 ((w1.alloc (.cells #[.int .i64 2, .int .i64 0, .int .i64 0, .int .i64 1, .int .i64 1, .string ⟨#[97]⟩, .string ⟨#[]⟩, .int .i64 0, .string ⟨#[]⟩] 25)).alloc (.cells #[.int .i64 2, .int .i64 1] 23)) := ((Below.refl _ _).alloc (Nat.le_refl _) _).alloc (by simp) _
  have hlc : Lies ((w1.alloc (.cells #[.int .i64 2, .int .i64 0, .int .i64 0, .int .i64 1, .int .i64 1, .string ⟨#[97]⟩, .string ⟨#[]⟩, .int .i64 0, .string ⟨#[]⟩] 25)).alloc (.cells #[.int .i64 2, .int .i64 1] 23)) w1.heap.size 0 #[.int .i64 2, .int .i64 0, .int .i64 0, .int .i64 1, .int .i64 1, .string ⟨#[97]⟩, .string ⟨#[]⟩, .int .i64 0, .string ⟨#[]⟩] := lies_of (heap_alloc_of heap_alloc_at)
  have hlf : Lies ((w1.alloc (.cells #[.int .i64 2, .int .i64 0, .int .i64 0, .int .i64 1, .int .i64 1, .string ⟨#[97]⟩, .string ⟨#[]⟩, .int .i64 0, .string ⟨#[]⟩] 25)).alloc (.cells #[.int .i64 2, .int .i64 1] 23)) (w1.heap.size + 1) 0 #[.int .i64 2, .int .i64 1] := by
    have e : (w1.alloc (.cells #[.int .i64 2, .int .i64 0, .int .i64 0, .int .i64 1, .int .i64 1, .string ⟨#[97]⟩, .string ⟨#[]⟩, .int .i64 0, .string ⟨#[]⟩] 25)).heap.size = w1.heap.size + 1 := by simp
    rw [← e]
    exact lies_of heap_alloc_at
  have hzA : ((w1.alloc (.cells #[.int .i64 2, .int .i64 0, .int .i64 0, .int .i64 1, .int .i64 1, .string ⟨#[97]⟩, .string ⟨#[]⟩, .int .i64 0, .string ⟨#[]⟩] 25)).alloc (.cells #[.int .i64 2, .int .i64 1] 23)).heap.size = w1.heap.size + 2 := by simp
  have hwL : WF [(((1, 1) : Fi), Value.pointer (some ⟨r, 0, none⟩), 0)] 1 := (WF.nil 0).upd (k := ((1, 1) : Fi)) (v := .pointer (some ⟨r, 0, none⟩))
  have hwM : WF [((1 : Int), Value.int .i64 1, 0)] 1 := (WF.nil 0).upd (k := (1 : Int)) (v := .int .i64 1)
  have hdo := Do_ok (h1.below hbA) (hn1.below hbA) rfl hwL hwM 0 0 1 1 0 ⟨#[97]⟩ ⟨#[]⟩ ⟨#[]⟩ okA rfl rfl rfl (by omega)
  clear hwL hwM h1 hn1
  go_wp2_with fail
  refine hdo.mono ?_
  rintro e w3 ⟨rfl, r', mr', h3, hn3, hf3, e1, e2, hm3⟩
  rw [hzA] at e1 e2
  have hlc3 := lies_mod hlc hm3 (by omega)
  have hlf3 := lies_mod hlf hm3 (by omega)
  have hb3 : Below w.heap.size w w3 := (hb1.trans (hbA.mono hz1)).trans (hm3.below (by omega) fun x hx h => by omega)
  have hz3 := hm3.size
  rw [hzA] at hz3
  have hMu := Must_mk h3 hn3 rfl 0 0 1 1 0 ⟨#[97]⟩ ⟨#[]⟩ ⟨#[]⟩ rfl okA true rfl (x0 := ⟨#[97]⟩) (x1 := 2) (x2 := 1) (x3 := 2) rfl
  simp only [if_true] at hMu
  clear hm3 hlc hlf hbA hb1 hdo hn3
  go_wp2_with (first
    | ((with_reducible refine wpList_execW (exec_loadA (aggK _ _ _ _ _ _ _ _ _) ?_ hlc3) ?_ ?_); rfl; rfl; go_frame)
    | fail)
  refine hMu.mono ?_
  rintro e w4 ⟨rfl, hb4⟩
  have h4 := h3.below hb4
  have hf4 := hf3.below hb4
  have hlf4 := hlf3.below' hb4 (by omega)
  have hz4 := hb4.size
  have hb04 := hb3.trans (hb4.mono hb3.size)
  have hwr := write_yes h4 2 1 rfl hf4.blk ⟨#[120]⟩
  clear h3 hf3 hlf3 hlc3 hb4 hb3 hMu
  go_wp2_with (first
    | ((with_reducible refine wpList_execW (exec_loadA (aggF _ _) ?_ hlf4) ?_ ?_); rfl; rfl; go_frame)
    | fail)
  refine hwr.mono ?_
  rintro e w5 ⟨rfl, hm5⟩
  have h5 := h4.mod hm5 (by omega) (by omega) (by omega)
  have hb5 : Below w.heap.size w w5 := hb04.trans (hm5.below (by omega) fun x hx h => by omega)
  have hle := len_yes h5
  rw [show ((ents encF (upd (2, 1) (Value.pointer (some ⟨r', 0, none⟩)) [(((1, 1) : Fi), Value.pointer (some ⟨r, 0, none⟩), 0)] 1)).size : Int) = 2 from rfl] at hle
  clear h4 hf4 hlf4 hm5 hb04 hwr h5
  go_wp2_with fail
  refine hle.mono ?_
  rintro e w6 ⟨rfl, hw⟩
  obtain rfl := hw.symm
  clear hw hle
  go_wp2
  go_ret
  exact ⟨rfl, hb5⟩
end Go.Proofs.Yteafnipciofamaa
