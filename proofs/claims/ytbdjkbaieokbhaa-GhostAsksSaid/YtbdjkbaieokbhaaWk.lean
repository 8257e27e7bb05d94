import Derived.Test.YtbdjkbaieokbhaaWj
namespace Go.Proofs.Ytbdjkbaieokbhaa
open Go.RowKit Go.Tn Go.Tn.Ghost

/-- A slice of numbers that can be read. -/
def IntSl (w : World) (v : Value) (xs : List Int) : Prop :=
  ∃ ao cap, v = .slice ao xs.length cap ∧ xs.length ≤ maxLen ∧ (0 < xs.length → ∃ b off, ao = some ⟨b, off, none⟩ ∧ ∀ (i : Nat) (x : Int), xs[i]? = some x → w.cell? ⟨b, off + i, none⟩ = some (.int .i64 x))

set_option maxHeartbeats 1000000 in
theorem sameInts_any (w : World) (u v : Value) (xs ys : List Int) (hu : IntSl w u xs) (hv : IntSl w v ys) :
    Calls Try.prog 10 #[u, v] w fun e w' => e = .returned (.bool (decide (xs = ys))) ∧ ∃ n, w' = w.drewN n := by
  obtain ⟨ao, cap, rfl, hmx, hx⟩ := hu
  obtain ⟨ao', cap', rfl, hmy, hy⟩ := hv
  unfold maxLen at hmx hmy
  by_cases hlen : xs.length = ys.length
  · have t1 : ((xs.length : Int) != (ys.length : Int)) = false := by simp [hlen]
    have HL := Lib.hid hlen
    clear hlen
    go_enter Try.func10, Try.ntmps10
    go_wp2
    go_loopw [5] (fun c wr => ∃ k : Nat, k ≤ xs.length ∧ c = .int .i64 k ∧ xs.take k = ys.take k ∧ ∃ n, wr = w.drewN n) (fun c _ => xs.length - (intOf c).toNat)
    case atStart => exact ⟨0, Nat.zero_le _, rfl, rfl, 0, rfl⟩
    case round =>
      obtain ⟨k, hk, rfl, htk, nd, rfl⟩ := hrel
      by_cases hlt : k < xs.length
      · have hlty : k < ys.length := by have := HL.out; omega
        obtain ⟨b, off, rfl, hcx⟩ := hx (by omega)
        obtain ⟨b', off', rfl, hcy⟩ := hy (by omega)
        have c1 := hcx k xs[k] (List.getElem?_eq_getElem hlt)
        have c2 := hcy k ys[k] (List.getElem?_eq_getElem hlty)
        have k1 : (k : Int) < (xs.length : Int) := by omega
        have k2 : (k : Int) < (ys.length : Int) := by omega
        have e1 := List.take_succ_eq_append_getElem hlt
        have e2 := List.take_succ_eq_append_getElem hlty
        have HT := Lib.hid htk
        by_cases hxy : xs[k] = ys[k]
        · have HN := Lib.hid (show xs.take (k + 1) = ys.take (k + 1) by rw [e1, e2, htk, hxy])
          have t2 : (xs[k] != ys[k]) = false := by simpa using hxy
          clear hcx hcy e1 e2 htk hxy hx hy
          generalize xs[k] = x at *
          generalize ys[k] = y at *
          go_wp2
          go_quiet (fail)
          go_wp2
          go_roundw
          case rel => exact ⟨k + 1, by omega, by go_num, HN.out, nd + nq, by first | rfl | rw [World.drewN_drewN]⟩
          case measure => simp [intOf]; omega
        · have HN := Lib.hid (show decide (xs = ys) = false by
            simp; intro h; subst h; exact hxy rfl)
          have t2 : (xs[k] != ys[k]) = true := by simpa using hxy
          clear hcx hcy e1 e2 htk hxy hx hy
          generalize xs[k] = x at *
          generalize ys[k] = y at *
          go_wp2
          go_quiet (fail)
          go_wp2
          go_ret
          exact ⟨by rw [HN.out]; rfl, nd + nq, by first | rfl | rw [World.drewN_drewN]⟩
      · have HN := Lib.hid (show decide (xs = ys) = true by
          have hl := HL.out
          rw [List.take_of_length_le (by omega), List.take_of_length_le (by omega)] at htk
          simpa using htk)
        go_wp2
        go_ret
        exact ⟨by rw [HN.out]; rfl, nd, rfl⟩
  · have t1 : ((xs.length : Int) != (ys.length : Int)) = true := by simp; omega
    have HN := Lib.hid (show decide (xs = ys) = false by simp; intro h; subst h; exact hlen rfl)
    clear hlen
    go_enter Try.func10, Try.ntmps10
    go_wp2
    go_ret
    exact ⟨by rw [HN.out]; rfl, 0, rfl⟩

/-! ### 'lives' -/
abbrev es : ByteArray := ⟨#[]⟩
def ev4 (k : Int) : Evt := { k := k, c := 0, ck := 8, i := 2, g := 1, di := 0, dg := 0, nm := es, ot := es, a := 0, da := ⟨#[120]⟩, re := 0, ri := 0, rg := 0, rk := 0, rd := es, ea := none, el := 0, ec := 0 }
def E4 (i : Nat) : Evt := match i with | 0 => ev4 3 | 1 => ev4 4 | 2 => ev4 3 | _ => ev4 5
def callA : Array Value := #[.int .i64 8, .int .i64 2, .int .i64 1, .int .i64 0, .int .i64 0, .string es, .string es, .int .i64 0, .string ⟨#[120]⟩]
theorem callA_one : callA.all (·.oneCell') = true := by simp [callA, Value.oneCell']
theorem aggCall : AggT Try.prog 33 callA.size := ⟨⟨_, Try.underlying33, rfl⟩, by kernel_rfl⟩
theorem build33 (w : World) : (Instr.build 33 #[(0, .int .i64 8), (1, .agg #[.int .i64 2, .int .i64 1]), (6, .string ⟨#[120]⟩)]).run Try.prog w = .ok (.agg callA) w := by kernel_rfl
theorem build39 (w : World) (k : Int) : (Instr.build 39 #[(0, .int .i64 k), (2, .agg callA)]).run Try.prog w = .ok (.agg (evArr (ev4 k))) w := by kernel_rfl
def all4 : Array Value := evArr (ev4 3) ++ evArr (ev4 4) ++ evArr (ev4 3) ++ evArr (ev4 5)
theorem build22 (w : World) : (Instr.buildSlice 22 4 #[(0, .agg (evArr (ev4 3))), (1, .agg (evArr (ev4 4))), (2, .agg (evArr (ev4 3))), (3, .agg (evArr (ev4 5)))]).run Try.prog w = .ok (.slice (some ⟨w.heap.size, 0, none⟩) 4 4) (w.alloc (.cells all4 39)) := by kernel_rfl
theorem build23 (w : World) : (Instr.buildSlice 23 4 #[(0, .int .i64 2), (1, .int .i64 0), (2, .int .i64 3), (3, .int .i64 0)]).run Try.prog w = .ok (.slice (some ⟨w.heap.size, 0, none⟩) 4 4) (w.alloc (.cells #[.int .i64 2, .int .i64 0, .int .i64 3, .int .i64 0] 3)) := by kernel_rfl
theorem fates4 : (List.range 4).map (fate E4 4) = [2, 0, 3, 0] := by decide

theorem evIn4 {w : World} {b : Nat} (h : w.heap[b]? = some (.cells all4 39 (0, 0))) : EvIn w b 0 4 E4 := by
  intro i hi
  match i, hi with
  | 0, _ => exact lies_extract h rfl
  | 1, _ => exact lies_extract h rfl
  | 2, _ => exact lies_extract h rfl
  | 3, _ => exact lies_extract h rfl

set_option maxHeartbeats 400000 in
theorem lives_any (w : World) : Calls Try.prog 8 #[] w fun e w' => e = .returned (.bool true) ∧ Below w.heap.size w w' := by
  have hl1 : Lies (w.alloc (.cells callA 33)) w.heap.size 0 callA := lies_of heap_alloc_at
  go_enter Try.func8, Try.ntmps8
  go_upto_region 2 with (first
    | ((with_reducible refine wpList_exec rfl (exec_build (v := .agg callA) (vals := #[(0, .int .i64 8), (1, .agg #[.int .i64 2, .int .i64 1]), (6, .string ⟨#[120]⟩)]) ?_ (build33 _)) ?_); rfl)
    | ((with_reducible refine wpList_storeA_new aggCall ?_ callA_one ?_ ?_ ?_); rfl; rfl; rfl))
  refine wp_region_lit ?_
  ((with_reducible refine wpList_loadA aggCall hl1 ?_ ?_); rfl; go_frame)
  ((with_reducible refine wpList_exec rfl (exec_build (vals := #[(0, .int .i64 3), (2, .agg callA)]) ?_ (build39 _ 3)) ?_); rfl; go_frame)
  ((with_reducible refine wpList_loadA aggCall hl1 ?_ ?_); rfl; go_frame)
  ((with_reducible refine wpList_exec rfl (exec_build (vals := #[(0, .int .i64 4), (2, .agg callA)]) ?_ (build39 _ 4)) ?_); rfl; go_frame)
  ((with_reducible refine wpList_loadA aggCall hl1 ?_ ?_); rfl; go_frame)
  ((with_reducible refine wpList_exec rfl (exec_build (vals := #[(0, .int .i64 3), (2, .agg callA)]) ?_ (build39 _ 3)) ?_); rfl; go_frame)
  ((with_reducible refine wpList_loadA aggCall hl1 ?_ ?_); rfl; go_frame)
  ((with_reducible refine wpList_exec rfl (exec_build (vals := #[(0, .int .i64 5), (2, .agg callA)]) ?_ (build39 _ 5)) ?_); rfl; go_frame)
  ((with_reducible refine wpList_exec rfl (exec_buildSlice (vals := #[(0, .agg (evArr (ev4 3))), (1, .agg (evArr (ev4 4))), (2, .agg (evArr (ev4 3))), (3, .agg (evArr (ev4 5)))]) ?_ (build22 _)) ?_); rfl; go_frame)
  have hb1 : Below w.heap.size w ((w.alloc (.cells callA 33)).alloc (.cells all4 39)) := ((Below.refl _ _).alloc (Nat.le_refl _) _).alloc (by simp) _
  have hE : EvSl ((w.alloc (.cells callA 33)).alloc (.cells all4 39)) (.slice (some ⟨(w.alloc (.cells callA 33)).heap.size, 0, none⟩) 4 4) 4 E4 :=
    ⟨_, _, rfl, fun _ => ⟨_, 0, rfl, by simp, evIn4 heap_alloc_at⟩⟩
  generalize (w.alloc (.cells callA 33)).alloc (.cells all4 39) = w1 at *
  generalize (w.alloc (.cells callA 33)).heap.size = n1 at *
  clear hl1
  go_wp2_with fail
  refine (fates_any w1 _ 4 E4 hE (by omega)).mono ?_
  rintro e w2 ⟨bf, rfl, hbf, hf, hb2⟩
  have hb12 : Below w.heap.size w w2 := hb1.trans (hb2.mono hb1.size)
  have hf' : w2.heap[bf]? = some (.cells #[.int .i64 2, .int .i64 0, .int .i64 3, .int .i64 0] 3 (0, 0)) := by
    rw [hf]
    have : ((List.range 4).map fun j => zv (fate E4 4 j)) = [zv 2, zv 0, zv 3, zv 0] := by
      have h := congrArg (List.map zv) fates4
      rwa [List.map_map] at h
    rw [this]
  clear hf hbf hE hb1 hb2
  go_wp2_with (first
    | ((with_reducible refine wpList_exec rfl (exec_buildSlice (vals := #[(0, .int .i64 2), (1, .int .i64 0), (2, .int .i64 3), (3, .int .i64 0)]) ?_ (build23 _)) ?_); rfl; go_frame)
    | fail)
  have sl : ∀ (w : World) (b : Nat) (h : w.heap[b]? = some (.cells #[.int .i64 2, .int .i64 0, .int .i64 3, .int .i64 0] 3 (0, 0))), IntSl w (.slice (some ⟨b, 0, none⟩) 4 4) [2, 0, 3, 0] := fun w b h =>
    ⟨_, _, rfl, by unfold maxLen; simp, fun _ => ⟨b, 0, rfl, fun i x hi => by
      rw [Nat.zero_add]
      refine cell_of h ?_
      match i, hi with
      | 0, hi => cases hi; rfl
      | 1, hi => cases hi; rfl
      | 2, hi => cases hi; rfl
      | 3, hi => cases hi; rfl⟩⟩
  refine (sameInts_any _ _ _ [2, 0, 3, 0] [2, 0, 3, 0] (sl _ bf (heap_alloc_of hf')) (sl _ _ heap_alloc_at)).mono ?_
  rintro e w3 ⟨rfl, nd, rfl⟩
  go_wp2
  go_ret
  exact ⟨rfl, below_drewN (hb12.alloc hb12.size _) nd⟩

end Go.Proofs.Ytbdjkbaieokbhaa
