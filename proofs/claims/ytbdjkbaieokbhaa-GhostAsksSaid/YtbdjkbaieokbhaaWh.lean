import Derived.Test.YtbdjkbaieokbhaaWg
import Derived.Maps.RangeWalk
namespace Go.Proofs.Ytbdjkbaieokbhaa
open Go.RowKit Go.Tn Go.Tn.Ghost

theorem list_range {w : World} {ops : Array Oper} {rest : List Oper} {a : Act} {Q : Exit → Act → World → Prop} {m clk : Nat} {L : Ents Pl} (hb : w.heap[m]? = some (.map (ents encP L) clk)) {dst : Option Tmp} {x : Operand} {ty : TypeId} {pos : String} {after : Array Edge}
    (hx : a.eval x = .map (some m)) (h : wpList Try.prog ops Q rest (a.put dst (.pointer (some ⟨w.heap.size, 0, none⟩))) (w.alloc (.mapIter (some m) clk #[] clk))) : wpList Try.prog ops Q (⟨dst, .range 43 x, ty, pos, after, none⟩ :: rest) a w :=
  wpList_exec rfl (exec_range Try.underlying43 hb hx) h

set_option maxHeartbeats 1000000 in
theorem crash_any (B : Nat) (w : World) (b : Nat) (S : St) (bf bo bl : Nat) (Lo : Ents Pl) (co : Nat) (Ll : Ents Pl) (cl : Nat) (h : Book B w b S bf bo bl Lo co Ll cl) (c : Int) (hsz : ∀ p, (S.op p).length + (S.li p).length ≤ 1000) (hB : B ≤ w.heap.size) :
    Calls Try.prog 23 #[.pointer (some ⟨b, 0, none⟩), .int .i64 c] w fun e w' => e = .returned (.tuple #[]) ∧
      (∃ S' Lo' Ll' cl', Crashed c S S' ∧ Book B w' b S' bf bo bl Lo' co Ll' cl') ∧ Below B w w' := by
  obtain ⟨c0, c1, c2⟩ := h.cells
  have hbz := lt_of_block h.blk
  have hob := h.o.blk
  have hstart : Half c S S Lo #[] := Half.start (fun p hp => by
    have hn : get p Lo = none := get_none.2 hp
    have := h.o.own p
    rcases this.form with ⟨_, hx⟩ | ⟨g, cap, cur, hv, _⟩
    · simpa using hx
    · simp [getD, hn] at hv)
  have h1 : Book B (w.alloc (.mapIter (some bo) co #[] co)) b S bf bo bl Lo co Ll cl := h.alloc _
  have hi1 : (w.alloc (.mapIter (some bo) co #[] co)).heap[w.heap.size]? = some (.mapIter (some bo) co #[] co) := heap_alloc_at
  have hb1 : Below B w (w.alloc (.mapIter (some bo) co #[] co)) := (Below.refl _ _).alloc hB _
  go_enter Try.func23, Try.ntmps23
  go_wp2_with (first
    | ((with_reducible refine list_range hob ?_ ?_); rfl; go_frame)
    | fail)
  go_loopw [4] (fun _ wr => ∃ S' Lo' Ll' cl' seen, Half c S S' Lo' seen ∧ Book B wr b S' bf bo bl Lo' co Ll' cl' ∧ wr.heap[w.heap.size]? = some (.mapIter (some bo) co seen co) ∧ Below B w wr) (fun _ wr => iterLeft wr w.heap.size bo)
  case atStart => exact ⟨S, Lo, Ll, cl, #[], hstart, h1, hi1, hb1⟩
  case round =>
    obtain ⟨S', Lo', Ll', cl', seen, hh, hbk, hit, hbel⟩ := hrel
    have hiz := lt_of_block hit
    rcases run_next (P := Try.prog) (ty := 0) hbk.o.blk hit hbk.o.wf.lt with ⟨hall, hrun⟩ | ⟨e, he, hns, nd, hrun⟩
    · go_wp2_with (first
        | ((with_reducible refine wpList_exec rfl (exec_next_of hrun ?_) ?_); rfl)
        | fail)
      go_end0
      exact ⟨rfl, ⟨S', Lo', Ll', cl', hh.crashed hall, hbk⟩, hbel⟩
    · have hleft := iterLeft_eq hit hbk.o.blk
      have hlt := left_push hbk.o.wf he hns
      have hmod2 := (setObjW_mod (w := wr.drewN nd) w.heap.size (.mapIter (some bo) co (seen.push e.2.2) co))
      have hit2 := setObjW_at (w := wr.drewN nd) (o := .mapIter (some bo) co (seen.push e.2.2) co) hiz
      have hbk2 := (hbk.drewN nd).of_mod_iter (it := w.heap.size) hit hmod2
      have hbel2 : Below B w _ := (below_drewN hbel nd).trans (hmod2.below (Nat.le_trans hB (by have := hbel.size; simpa using this)) (fun x hx e => by omega))
      generalize setObjW (wr.drewN nd) w.heap.size (.mapIter (some bo) co (seen.push e.2.2) co) = w2 at *
      obtain ⟨n, hn⟩ := List.getElem?_of_mem he
      have hent : (Instr.entry (.pointer (some ⟨w.heap.size, 0, none⟩))).run Try.prog w2 = .ok (.tuple #[.agg #[.int .i64 e.1.c, .int .i64 e.1.i, .int .i64 e.1.g, .int .i64 e.1.a], e.2.1]) w2 :=
        run_entry (P := Try.prog) hbk2.o.blk hit2 hn (hbk2.o.wf.stamp hn)
      have hsz2 : w.heap.size ≤ w2.heap.size := hbel2.size
      by_cases hc : e.1.c = c
      · have hhn := hh.lost hbk.o.wf he hns hc
        have hcb : (e.1.c == c) = true := by simpa using hc
        have hrest := hh.rest e.1 (fun hx => not_done he hns hx.2)
        have hsz1 := hsz e.1
        have hle : ((del e.1 Lo').filter fun x => !(seen.push e.2.2).contains x.2.2).length ≤ (Lo'.filter fun x => !(seen.push e.2.2).contains x.2.2).length := (del_sub.filter _).length_le
        have HC := Lib.hid hc
        have HR := Lib.hid hrest
        clear hc hrest
        go_wp2_with (first
          | ((with_reducible refine wpList_exec rfl (exec_next_of hrun ?_) ?_); rfl)
          | ((with_reducible refine wpList_exec rfl (exec_entry_of hent ?_) ?_); rfl)
          | fail)
        have hbk3 := hbk2.alloc (.cells #[.int .i64 e.1.c, .int .i64 e.1.i, .int .i64 e.1.g, .int .i64 e.1.a] 52)
        have hit3 : (w2.alloc (.cells #[.int .i64 e.1.c, .int .i64 e.1.i, .int .i64 e.1.g, .int .i64 e.1.a] 52)).heap[w.heap.size]? = _ := heap_alloc_of hit2
        refine (lose_any B _ b S' bf bo bl Lo' co Ll' cl' hbk3 e.1 (by rw [HR.out.1, HR.out.2]; exact hsz1) (by simp; omega)).mono ?_
        rintro e1 w3 ⟨rfl, ⟨Ll'', cl'', hbk4⟩, hm3⟩
        have hn3 := hbk3.not_iter hit3
        have hit4 := hm3.heap hit3 (fun hx => by
          rcases hx with hx | hx | hx | hx
          · exact hn3.2.1 hx
          · exact hn3.2.2.2.1 hx
          · exact hn3.2.2.2.2.2 _ hx
          · exact hn3.2.2.1 hx)
        have hbel4 := (hbel2.alloc (by omega) (.cells #[.int .i64 e.1.c, .int .i64 e.1.i, .int .i64 e.1.g, .int .i64 e.1.a] 52)).trans (hbk3.lose_below (by simp; omega) hm3)
        have hleft4 := iterLeft_eq hit4 hbk4.o.blk
        have HM := Lib.hid (show iterLeft w3 w.heap.size bo < iterLeft wr w.heap.size bo by rw [hleft4, hleft]; omega)
        clear hleft hleft4 hlt hle hm3 hbk3 hit3 hbk2 hit2 hrun hent hmod2
        go_wp2
        go_roundw
        case rel => exact ⟨_, _, _, _, _, hhn, hbk4, hit4, hbel4⟩
        case measure => exact HM.out
      · have hhn := hh.skip hbk.o.wf he hc
        have hcb : (e.1.c == c) = false := by simpa using hc
        have HC := Lib.hid hc
        clear hc
        have hleft4 := iterLeft_eq (w := w2.alloc (.cells #[.int .i64 e.1.c, .int .i64 e.1.i, .int .i64 e.1.g, .int .i64 e.1.a] 52)) (heap_alloc_of hit2) (heap_alloc_of hbk2.o.blk)
        have HM := Lib.hid (show iterLeft (w2.alloc (.cells #[.int .i64 e.1.c, .int .i64 e.1.i, .int .i64 e.1.g, .int .i64 e.1.a] 52)) w.heap.size bo < iterLeft wr w.heap.size bo by rw [hleft4, hleft]; exact hlt)
        have hbk3 := hbk2.alloc (.cells #[.int .i64 e.1.c, .int .i64 e.1.i, .int .i64 e.1.g, .int .i64 e.1.a] 52)
        have hit3 : (w2.alloc (.cells #[.int .i64 e.1.c, .int .i64 e.1.i, .int .i64 e.1.g, .int .i64 e.1.a] 52)).heap[w.heap.size]? = _ := heap_alloc_of hit2
        have hbel4 := hbel2.alloc (by omega) (.cells #[.int .i64 e.1.c, .int .i64 e.1.i, .int .i64 e.1.g, .int .i64 e.1.a] 52)
        clear hleft hleft4 hlt
        go_wp2_with (first
          | ((with_reducible refine wpList_exec rfl (exec_next_of hrun ?_) ?_); rfl)
          | ((with_reducible refine wpList_exec rfl (exec_entry_of hent ?_) ?_); rfl)
          | fail)
        go_roundw
        case rel => exact ⟨_, _, _, _, _, hhn, hbk3, hit3, hbel4⟩
        case measure => exact HM.out
end Go.Proofs.Ytbdjkbaieokbhaa
