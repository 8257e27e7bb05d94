/- maps.Keys over the table's map, walked. -/
import Derived.Test.YthckjciblngaaaaFa
namespace Go.Proofs.Ythckjciblngaaaa
open Go.RowKit Go.Tn Go.Maps Go.Sort Go.Shelf

theorem keys_call (W : World) (m : Nat) : Calls Try.prog 44 #[.map (some m)] W
    fun e w' => e = .returned (.func (.func 63) #[] #[.pointer (some ⟨W.heap.size, 0, none⟩)]) ∧ w' = W.alloc (.cells #[.map (some m)] 52) := by
  go_enter Try.func44, Try.ntmps44
  go_wp2
  go_ret
  exact ⟨rfl, rfl⟩

set_option maxRecDepth 100000 in
set_option maxHeartbeats 4000000 in
theorem keysF_in (n : Nat) (hn : 1 ≤ n) (l Bm m clk : Nat) (L : Ents Fi) (hwf : WF L clk) (J : List Fi → World → Prop)
    (hY : ∀ pre x W, J pre W → pre.length < L.length → YieldAt Fence.wide (n - 1) Try.prog l #[encF x] W fun e W' => e = .returned (.bool true) ∧ J (pre ++ [x]) W' ∧ KeepsWalks W W')
    (W : World) (hJ : AbidesFrom W.heap.size J) (hm : W.cell? ⟨Bm, 0, none⟩ = some (.map (some m))) (hb : W.heap[m]? = some (.map (ents encF L) clk)) (h0 : J [] W) :
    CallsIn Fence.wide n Try.prog 63 #[.func (.yield l) #[] #[], .pointer (some ⟨Bm, 0, none⟩)] W fun e W' => (∃ v, e = .returned v) ∧ ∃ ss : List Fi, ss.Perm (L.map (·.1)) ∧ J ss W' := by
  refine callsIn_of_wp Try.func63 rfl trivial ?_ rfl
  simp only [Try.ntmps63, List.size_toArray, List.length_cons, List.length_nil, Nat.reduceAdd, Nat.reduceSub, Array.replicate_succ, Array.replicate_zero, List.push_toArray, List.append_toArray, List.nil_append, List.cons_append]
  gi_wp2_with (first
    | ((with_reducible refine wpListIn_exec rfl rfl (fun c h => by cases h) (exec_range Try.underlying52 hb ?_) ?_); rfl; go_frame)
    | gi_in)
  have hml := lt_of_block hb
  gi_loopw [3] (fun _ wr => ∃ (seen : Array Nat) (ss : List Fi), wr.heap[m]? = some (.map (ents encF L) clk) ∧ wr.heap[W.heap.size]? = some (.mapIter (some m) clk seen clk) ∧ KeysSeen L seen ss ∧ J ss wr)
    (fun _ wr => iterLeftK wr W.heap.size m)
  case atStart =>
    exact ⟨#[], [], heap_alloc_of hb, heap_alloc_at, KeysSeen.start L, hJ [] W _ none h0 (alloc_grown W _) (fun r e => by cases e)⟩
  case round =>
    obtain ⟨seen, ss, hbm, hit, hks, hJs⟩ := hrel
    rcases run_next (P := Try.prog) (ty := 0) hbm hit hwf.lt with ⟨hall, hrun⟩ | ⟨e, he, hns, nd, hrun⟩
    · have hp := hks.perm hwf hall
      gi_wp2_with (first
        | ((with_reducible refine wpListIn_exec rfl rfl (fun c h => by cases h) (exec_next_of hrun ?_) ?_); rfl; go_frame)
        | gi_in)
      go_end0
      exact ⟨⟨_, rfl⟩, ss, hp, hJs⟩
    · have hmore := hks.more hwf he hns
      have hlen := hmore.len hwf
      have hleft := iterLeftK_eq hit hbm
      have hlt := leftK_push he hns
      obtain ⟨k, hk⟩ := List.getElem?_of_mem he
      have hgr := setObjW_grown wr nd W.heap.size (.mapIter (some m) clk (seen.push e.2.2) clk)
      have hJ2 := hJ ss wr _ (some W.heap.size) hJs hgr (fun r e => by cases e; exact ⟨Nat.le_refl _, _, hit, rfl⟩)
      have hit2 := setObjW_at (w := wr.drewN nd) (o := .mapIter (some m) clk (seen.push e.2.2) clk) (lt_of_block hit)
      have hbm2 : (setObjW (wr.drewN nd) W.heap.size (.mapIter (some m) clk (seen.push e.2.2) clk)).heap[m]? = some (.map (ents encF L) clk) := (setObjW_ne (Nat.ne_of_lt hml)).trans hbm
      generalize setObjW (wr.drewN nd) W.heap.size (.mapIter (some m) clk (seen.push e.2.2) clk) = w2 at *
      have hent : (Instr.entry (.pointer (some ⟨W.heap.size, 0, none⟩))).run Try.prog w2 = .ok (.tuple #[encF e.1, e.2.1]) w2 := run_entry (P := Try.prog) hbm2 hit2 hk (hwf.stamp hk)
      obtain ⟨⟨fi, fg⟩, ev, eb⟩ := e
      have hJ3 : J ss (w2.alloc (.cells #[.int .i64 fi, .int .i64 fg] 39)) := hJ ss w2 _ none hJ2 (alloc_grown w2 _) (fun r e => by cases e)
      have hit3 := heap_alloc_of (o := .cells #[.int .i64 fi, .int .i64 fg] 39) hit2
      have hbm3 := heap_alloc_of (o := .cells #[.int .i64 fi, .int .i64 fg] 39) hbm2
      obtain ⟨fn, tmps, assign, body, hy, hR⟩ := hY ss (fi, fg) _ hJ3 (by rw [List.length_append, List.length_singleton] at hlen; omega)
      have HR := Lib.hid hR
      have HL := Lib.hid hleft
      have HT := Lib.hid hlt
      have HM := Lib.hid hmore
      clear hR hleft hlt hmore hlen hgr hJ2 hks hns he hk hJ3 hb hit hbm hJs
      simp only [encF] at hent hrun hy
      gi_wp2_with (first
        | ((with_reducible refine wpListIn_exec rfl rfl (fun c h => by cases h) (exec_next_of hrun ?_) ?_); rfl; go_frame)
        | ((with_reducible refine wpListIn_exec rfl rfl (fun c h => by cases h) (exec_entry_of hent ?_) ?_); rfl; go_frame)
        | gi_in)
      refine HR.out.mono ?_
      rintro e W3 ⟨rfl, hJ4, hk4⟩
      have hit4 := hk4.same _ _ hit3 rfl
      have hbm4 := hk4.same _ _ hbm3 rfl
      clear hk4 hit2 hbm2 hit3 hbm3
      gi_wp2
      go_roundw
      case rel => exact ⟨_, _, hbm4, hit4, HM.out, hJ4⟩
      case measure => rw [iterLeftK_eq hit4 hbm4, HL.out]; exact HT.out
/-- maps.Keys hands back an iterator over the keys. -/
theorem keys_gives (n : Nat) (hn : 1 ≤ n) (Bm m clk : Nat) (L : Ents Fi) (hwf : WF L clk) (w : World) (hBm : Bm < w.heap.size) (hm : w.cell? ⟨Bm, 0, none⟩ = some (.map (some m))) (hb : w.heap[m]? = some (.map (ents encF L) clk)) :
    SeqGives Fence.wide n Try.prog 63 #[.pointer (some ⟨Bm, 0, none⟩)] encF (fun ss => ss.Perm (L.map (·.1))) L.length w := fun l J W hW hJ hY h0 =>
  keysF_in n hn l Bm m clk L hwf J hY W hJ ((hW.cell (p := ⟨Bm, 0, none⟩) hBm).trans hm) ((hW.block m (lt_of_block hb)).trans hb) h0
end Go.Proofs.Ythckjciblngaaaa
