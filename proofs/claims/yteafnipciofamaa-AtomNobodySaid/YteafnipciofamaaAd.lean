/- Trees: what a creation must answer, whole. -/
import Derived.Test.YteafnipciofamaaAc
namespace Go.Proofs.Yteafnipciofamaa
open Go.RowKit Go.Tn Go.Tn.Names

theorem aggK (k fi fg di dg at_ : Int) (nm ot da : ByteArray) : AggT Try.prog 25 (#[.int .i64 k, .int .i64 fi, .int .i64 fg, .int .i64 di, .int .i64 dg, .string nm, .string ot, .int .i64 at_, .string da] : Array Value).size := ⟨⟨_, Try.underlying25, rfl⟩, by kernel_rfl⟩
theorem named_mk (w : World) (fi fg di dg at_ : Int) (nm ot da : ByteArray) : Calls Try.prog 16 #[.agg #[.int .i64 2, .int .i64 fi, .int .i64 fg, .int .i64 di, .int .i64 dg, .string nm, .string ot, .int .i64 at_, .string da]] w
    fun e w' => e = .returned (.bool true) ∧ Below w.heap.size w w' := by
  have hb : Below w.heap.size w (w.alloc (.cells #[.int .i64 2, .int .i64 fi, .int .i64 fg, .int .i64 di, .int .i64 dg, .string nm, .string ot, .int .i64 at_, .string da] 25)) := (Below.refl _ _).alloc (Nat.le_refl _) _
  go_enter Try.func16, Try.ntmps16
  go_wp2_with fail
  go_ret
  exact ⟨rfl, hb⟩
set_option maxRecDepth 20000 in
theorem Must_mk {w : World} {t mn mm : Nat} {L : Ents Fi} {c : Nat} {M : Ents Int} {d : Nat} (h : Tr w t mn mm L c M d) {r mr ce : Nat} {cs : Array Value} {E : Ents ByteArray} (hn : Nd w r mr cs E ce) (h0 : cs[0]? = some (.int .i64 1))
    (fi fg di dg at_ : Int) (nm ot da : ByteArray) (hg : Go.Tn.get (di, dg) L = some (.pointer (some ⟨r, 0, none⟩))) (hnm : isName (bs nm) = true) (there : Bool) (ho : (Go.Tn.get nm E).isSome = there) {x0 : ByteArray} {x1 x2 x3 : Int} (hx : Go.Tn.getD nm E (.agg #[.string ⟨#[]⟩, .int .i64 0, .int .i64 0, .int .i64 0]) = .agg #[.string x0, .int .i64 x1, .int .i64 x2, .int .i64 x3]) :
    Calls Try.prog 6 #[.pointer (some ⟨t, 0, none⟩), .agg #[.int .i64 2, .int .i64 fi, .int .i64 fg, .int .i64 di, .int .i64 dg, .string nm, .string ot, .int .i64 at_, .string da]] w
    fun e w' => e = .returned (.int .i64 (if there then 10 else 0)) ∧ Below w.heap.size w w' := by
  have hb : Below w.heap.size w (w.alloc (.cells #[.int .i64 2, .int .i64 fi, .int .i64 fg, .int .i64 di, .int .i64 dg, .string nm, .string ot, .int .i64 at_, .string da] 25)) := (Below.refl _ _).alloc (Nat.le_refl _) _
  have h1 := h.below hb
  have hn1 := hn.below hb
  have hl : Lies (w.alloc (.cells #[.int .i64 2, .int .i64 fi, .int .i64 fg, .int .i64 di, .int .i64 dg, .string nm, .string ot, .int .i64 at_, .string da] 25)) w.heap.size 0 #[.int .i64 2, .int .i64 fi, .int .i64 fg, .int .i64 di, .int .i64 dg, .string nm, .string ot, .int .i64 at_, .string da] := lies_of heap_alloc_at
  have hlt : w.heap.size < (w.alloc (.cells #[.int .i64 2, .int .i64 fi, .int .i64 fg, .int .i64 di, .int .i64 dg, .string nm, .string ot, .int .i64 at_, .string da] 25)).heap.size := by simp
  obtain ⟨w1, hw1⟩ : ∃ w1, w.alloc (.cells #[.int .i64 2, .int .i64 fi, .int .i64 fg, .int .i64 di, .int .i64 dg, .string nm, .string ot, .int .i64 at_, .string da] 25) = w1 := ⟨_, rfl⟩
  rw [hw1] at h1 hn1 hl hlt hb
  have HX := Lib.hid hx
  have HO := Lib.hid ho
  clear hx ho h hn
  go_enter Try.func6, Try.ntmps6
  go_wp2_with fail
  refine (ok_yes h1).mono ?_
  rintro e w2 ⟨rfl, hw⟩
  obtain rfl := hw.symm
  clear hw
  have c0 := hl 0 (by simp)
  go_wp2_with (first
    | ((with_reducible refine wpList_loadA (aggK _ _ _ _ _ _ _ _ _) hl ?_ ?_); rfl; go_frame)
    | fail)
  refine (named_mk w1 fi fg di dg at_ nm ot da).mono ?_
  rintro e w2 ⟨rfl, hb2⟩
  have h2 := h1.below hb2
  have hn2 := hn1.below hb2
  have hl2 := hl.below' hb2 hlt
  have hlt2 := Nat.lt_of_lt_of_le hlt hb2.size
  have hb02 := hb.trans (hb2.mono hb.size)
  have hc := check_any w2 nm
  rw [errOf_yes hnm] at hc
  have c5 := hl2 5 (by simp)
  have c0' := hl2 0 (by simp)
  clear hb2 hb hl h1 hn1 hlt c0 hnm
  go_wp2_with fail
  refine hc.mono ?_
  rintro e w3 ⟨rfl, hb3⟩
  have h3 := h2.below hb3
  have hn3 := hn2.below hb3
  have hl3 := hl2.below' hb3 hlt2
  have hlt3 := Nat.lt_of_lt_of_le hlt2 hb3.size
  have hb03 := hb02.trans (hb3.mono hb02.size)
  clear hb3 hb02 hl2 h2 hn2 hlt2 c5 c0' hc
  have c0 := hl3 0 (by simp)
  have cd := aggF di dg
  have hlD : Lies w3 w.heap.size 3 #[.int .i64 di, .int .i64 dg] := fun j hj => by
    have hj : j < 2 := hj
    have := hl3 (3 + j) (by simp; omega)
    rw [show w.heap.size = w.heap.size from rfl] at this
    rcases j with _ | _ | j
    · exact this
    · exact this
    · omega
  go_wp2_with (first
    | ((with_reducible refine wpList_loadA (aggF _ _) hlD ?_ ?_); rfl; go_frame)
    | fail)
  refine (of_yes h3 di dg 1 hg (cell_of hn3.blk h0)).mono ?_
  rintro e w4 ⟨rfl, hb4⟩
  have hn4 := hn3.below hb4
  have hl4 := hl3.below' hb4 hlt3
  have hb04 := hb03.trans (hb4.mono hb03.size)
  clear hb4 hb03 hl3 h3 hn3 c0 hlD
  have c0 := hl4 0 (by simp)
  go_wp2_with (first
    | ((with_reducible refine wpList_loadA (aggK _ _ _ _ _ _ _ _ _) hl4 ?_ ?_); rfl; go_frame)
    | fail)
  refine (must_make hn4 fi fg di dg at_ nm ot da there HO.out HX.out).mono ?_
  rintro e w5 ⟨rfl, hb5⟩
  go_wp2_with fail
  all_goals
    go_ret
    exact ⟨rfl, hb04.trans (hb5.mono hb04.size)⟩
end Go.Proofs.Yteafnipciofamaa
