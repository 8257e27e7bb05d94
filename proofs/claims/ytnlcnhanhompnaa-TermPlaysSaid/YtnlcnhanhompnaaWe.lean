/- Late: its walk. -/
import Derived.Test.YtnlcnhanhompnaaWd
namespace Go.Proofs.Ytnlcnhanhompnaa
open Go.RowKit Go.Tn Go.Maps Go.Sort Go.Shelf

theorem keysH_lt {H : Heard} {c : Nat} (h : c ∈ keysH H) : c < 8 ∧ ∃ t, H c = some t := by
  obtain ⟨h1, h2⟩ := List.mem_filter.1 h
  refine ⟨List.mem_range.1 h1, ?_⟩
  cases hH : H c with
  | none => rw [hH] at h2; cases h2
  | some t => exact ⟨t, rfl⟩
theorem keysH_len (H : Heard) : (keysH H).length ≤ 8 := by
  have := List.length_filter_le (fun c => (H c).isSome) (List.range 8)
  simpa [keysH] using this

set_option maxHeartbeats 4000000 in
set_option maxRecDepth 20000 in
theorem late_ok (w : World) (b m sp clk : Nat) (L : Ents Int) (H : Heard) (h : WatchAt w b m sp L clk H) (now : Nat) (hnow : now < 18446744073709551616) : Calls Try.prog 12 #[.pointer (some ⟨b, 0, none⟩), .int .u64 now] w
    fun e w' => (∃ v, e = .returned v ∧ IntSl w' v (ints (lateH H sp now))) ∧ Below w.heap.size w w' := by
  have hL0 := h
  have c1 := h.c1
  have hks := keys_sorted h
  have hkl := keysH_len H
  have hLl : L.length ≤ 1000 := by
    have e := congrArg List.length hks
    rw [List.length_mergeSort, List.length_map] at e
    have : (ints (keysH H)).length = (keysH H).length := by simp [ints]
    omega
  have hwf : ∀ e ∈ L, (Lit.int .i64 e.1).wf = true := fun e he => by
    have hm : e.1 ∈ (L.map (·.1)).mergeSort leI := (List.mergeSort_perm _ _).mem_iff.2 (List.mem_map.2 ⟨e, he, rfl⟩)
    rw [hks] at hm
    obtain ⟨c, hc, hce⟩ := List.mem_map.1 hm
    have := (keysH_lt hc).1
    rw [← hce]
    simp only [Lit.wf, Bool.and_eq_true, decide_eq_true_eq]
    constructor
    · exact Int.le_trans (by decide) (Int.natCast_nonneg c)
    · show (c : Int) ≤ 9223372036854775807
      omega
  have hsorted := sorted_call w m clk L h.map h.wf hwf hLl
  rw [hks] at hsorted
  have hLlen : L.length = (ints (keysH H)).length := by rw [← hks, List.length_mergeSort, List.length_map]
  rw [hLlen] at hsorted
  have hbl := lt_of_block h.blk
  have hml := lt_of_block h.map
  clear hks hwf hLlen
  go_enter Try.func12, Try.ntmps12
  go_wp2_with (go_at_call 26; refine (wok_any _ b m sp clk L H hL0).mono ?_; rintro e w' ⟨rfl, hw2⟩; obtain rfl := hw2.symm; clear hw2)
  refine (keys_call w m).mono ?_
  rintro e w1 ⟨rfl, rfl⟩
  go_wp2_with fail
  refine hsorted.mono ?_
  rintro e w2 ⟨v, rfl, hrow, hb2⟩
  have hown : Own1 w2 3 v ((ints (keysH H)).map encI) := by
    have := ownsRow_base_a hrow (Nat.zero_le _)
    unfold Own1
    rw [List.length_map]
    exact this
  have hsl := Own1.intSl hown
  have hW2 : WatchAt w2 b m sp L clk H := hL0.mod (Mod.of_below hb2) (by omega) (by omega)
  clear hrow hown hsorted
  obtain ⟨ao, cap, rfl, hcl, hcm, hx⟩ := hsl
  unfold maxLen at hcm
  have hints : (ints (keysH H)).length = (keysH H).length := by simp [ints]
  rw [hints] at hcl ⊢
  go_wp2
  go_loopw [5, 19] (fun ov kv wr => ∃ k : Nat, k ≤ (keysH H).length ∧ kv = .int .i64 k ∧ IntOuts w2.heap.size wr ov (ints (((keysH H).take k).filter fun c => isLate H sp now c)) ∧ Below w2.heap.size w2 wr) (fun _ kv _ => (keysH H).length - (intOf kv).toNat)
  case atStart => exact ⟨0, Nat.zero_le _, rfl, IntOuts.nil (Nat.le_refl _), Below.refl _ _⟩
  case round =>
    obtain ⟨k, hk, rfl, hO, hbr⟩ := hrel
    by_cases hlt : k < (keysH H).length
    · have hlt' : (k : Int) < ((keysH H).length : Int) := by omega
      obtain ⟨bb, off, rfl, hbb, hcs⟩ := hx (by rw [hints]; omega)
      obtain ⟨hc8, t, hHt⟩ := keysH_lt (List.getElem_mem hlt)
      have hcell : wr.cell? ⟨bb, off + k, none⟩ = some (.int .i64 ((keysH H)[k] : Nat)) := by
        rw [hbr.cell (p := ⟨bb, off + k, none⟩) hbb]
        exact hcs k _ (by simp [ints, hlt])
      have hWr : WatchAt wr b m sp L clk H := hW2.mod (Mod.of_below hbr) (by have := lt_of_block hW2.blk; omega) (by have := lt_of_block hW2.map; omega)
      have d0 := hWr.c0
      have d1 := hWr.c1
      have hmap := hWr.map
      have hg : getD (((keysH H)[k] : Nat) : Int) L (.int .u64 0) = .int .u64 t := by
        unfold getD
        rw [hWr.get, valOf, if_pos (by omega), Int.toNat_natCast, hHt]
        rfl
      have htk : ((keysH H).take (k + 1)).filter (fun c => isLate H sp now c) = ((keysH H).take k).filter (fun c => isLate H sp now c) ++ (if isLate H sp now (keysH H)[k] then [(keysH H)[k]] else []) := by
        rw [List.take_succ_eq_append_getElem hlt, List.filter_append]
        congr 1
        simp [List.filter]
        split <;> simp_all
      have hil : isLate H sp now (keysH H)[k] = (decide (t < now) && decide (sp < now - t)) := by unfold isLate; rw [hHt]
      have hsp := h.sp2
      clear hcs hx
      generalize (keysH H)[k] = c at *
      by_cases h1 : t < now
      · have h1' : (t : Int) < (now : Int) := by omega
        by_cases h2 : sp < now - t
        · have h2' : (sp : Int) < (now : Int) - (t : Int) := by omega
          have hil2 : isLate H sp now c = true := by rw [hil]; simp [h1, h2]
          rw [hil2, if_pos rfl] at htk
          have HT := Lib.hid htk
          have hol : (ints (((keysH H).take k).filter fun c => isLate H sp now c)).length ≤ 1000 := by
            have := List.length_filter_le (fun c => isLate H sp now c) ((keysH H).take k)
            rw [List.length_take] at this
            simp only [ints, List.length_map]
            omega
          clear hil hil2 htk h1 h2
          go_wp2_with (first
            | ((with_reducible refine wpList_exec rfl (exec_lookup keyI Try.underlying62 zero64 hmap ?_ (c : Int) ?_) ?_); rfl; rfl; go_frame)
            | ((with_reducible refine wpList_appendI hO (c : Int) hol ?_ ?_ ?_); rfl; rfl; (intro v2 w3 hO2 hb3); go_frame)
            | fail)
          refine ⟨⟨k + 1, by omega, by go_num, ?_, hbr.trans hb3⟩, by simp [intOf]; omega⟩
          rw [HT.out]
          unfold ints
          rw [List.map_append]
          exact hO2
        · have h2' : (now : Int) - (t : Int) ≤ (sp : Int) := by omega
          have hil2 : isLate H sp now c = false := by rw [hil]; simp [h2]
          rw [hil2, if_neg (by decide), List.append_nil] at htk
          have HT := Lib.hid htk
          clear hil hil2 htk h1 h2
          go_wp2_with (first
            | ((with_reducible refine wpList_exec rfl (exec_lookup keyI Try.underlying62 zero64 hmap ?_ (c : Int) ?_) ?_); rfl; rfl; go_frame)
            | fail)
          go_roundw
          case rel => exact ⟨k + 1, by omega, by go_num, by rw [HT.out]; exact hO, hbr⟩
          case measure => simp [intOf]; omega
      · have h1' : (now : Int) ≤ (t : Int) := by omega
        have hil2 : isLate H sp now c = false := by rw [hil]; simp [h1]
        rw [hil2, if_neg (by decide), List.append_nil] at htk
        have HT := Lib.hid htk
        clear hil hil2 htk h1
        go_wp2_with (first
          | ((with_reducible refine wpList_exec rfl (exec_lookup keyI Try.underlying62 zero64 hmap ?_ (c : Int) ?_) ?_); rfl; rfl; go_frame)
          | fail)
        go_roundw
        case rel => exact ⟨k + 1, by omega, by go_num, by rw [HT.out]; exact hO, hbr⟩
        case measure => simp [intOf]; omega
    · obtain rfl : k = (keysH H).length := by omega
      rw [List.take_of_length_le (Nat.le_refl _)] at hO
      have hsl2 := Own1.intSl hO.own
      go_wp2
      go_ret
      exact ⟨⟨_, rfl, hsl2⟩, hb2.trans (hbr.mono hb2.size)⟩
end Go.Proofs.Ytnlcnhanhompnaa
