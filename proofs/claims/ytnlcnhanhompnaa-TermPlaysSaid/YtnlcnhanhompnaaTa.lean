/- What TermPlays wants beside: the failing ways, Lapse, Forget, Heard. -/
import Derived.Test.YtnlcnhanhompnaaWe
namespace Go.Proofs.Ytnlcnhanhompnaa
open Go.RowKit Go.Tn

theorem span_no (w : World) (t r : Int) (h : ¬ (1 ≤ t ∧ t ≤ 1024 ∧ 1 ≤ r ∧ r ≤ 16)) : Calls Try.prog 7 #[.int .i64 t, .int .i64 r] w
    fun e w' => e = .returned (.tuple #[.int .u64 0, .int .i64 2]) ∧ w' = w := by
  have hm := fun w => may_any w t
  by_cases h1 : 1 ≤ t ∧ t ≤ 1024
  · rw [decide_eq_true h1] at hm
    by_cases h2 : r < 1
    · go_enter Try.func7, Try.ntmps7
      go_wp2_with (go_at_call 25; refine (hm _).mono ?_; rintro e w ⟨rfl, rfl⟩)
      go_ret2
      exact ⟨rfl, rfl⟩
    · have h3 : 16 < r := by omega
      have h2' : 1 ≤ r := by omega
      go_enter Try.func7, Try.ntmps7
      go_wp2_with (go_at_call 25; refine (hm _).mono ?_; rintro e w ⟨rfl, rfl⟩)
      go_ret2
      exact ⟨rfl, rfl⟩
  · rw [decide_eq_false h1] at hm
    go_enter Try.func7, Try.ntmps7
    go_wp2_with (go_at_call 25; refine (hm _).mono ?_; rintro e w ⟨rfl, rfl⟩)
    go_ret2
    exact ⟨rfl, rfl⟩
theorem newLease_no (w : World) (t : Int) (h : ¬ (1 ≤ t ∧ t ≤ 1024)) : Calls Try.prog 8 #[.int .i64 t] w
    fun e w' => e = .returned (.tuple #[.pointer none, .int .i64 2]) ∧ w' = w := by
  have hm := fun w => may_any w t
  rw [decide_eq_false h] at hm
  go_enter Try.func8, Try.ntmps8
  go_wp2_with (go_at_call 25; refine (hm _).mono ?_; rintro e w ⟨rfl, rfl⟩)
  go_ret2
  exact ⟨rfl, rfl⟩
theorem newWatch_zero (w : World) : Calls Try.prog 9 #[.int .u64 0] w
    fun e w' => e = .returned (.tuple #[.pointer none, .int .i64 2]) ∧ w' = w := by
  go_enter Try.func9, Try.ntmps9
  go_wp2
  go_ret2
  exact ⟨rfl, rfl⟩
theorem ack_no (w : World) (b t u : Nat) (h : LeaseAt w b t u) (s : Nat) (hs : 1099511627775 < s) : Calls Try.prog 11 #[.pointer (some ⟨b, 0, none⟩), .int .u64 s] w
    fun e w' => e = .returned (.int .i64 2) ∧ w' = w := by
  have hs' : (1099511627775 : Int) < (s : Int) := by omega
  go_enter Try.func11, Try.ntmps11
  go_wp2_with (go_at_call 27; refine (lok_any _ b t u h).mono ?_; rintro e w ⟨rfl, rfl⟩)
  go_ret
  exact ⟨rfl, rfl⟩
theorem lapse_any (w : World) (b t u : Nat) (h : LeaseAt w b t u) : Calls Try.prog 17 #[.pointer (some ⟨b, 0, none⟩)] w
    fun e w' => e = .returned (.tuple #[]) ∧ LeaseAt w' b t 0 ∧ Mod (fun x => x = b) w w' := by
  have hL0 := h
  have c1 := h.c1
  have hf : w.frozen? ⟨b, 1, none⟩ = false := h.free
  go_enter Try.func17, Try.ntmps17
  go_wp2_with (go_at_call 27; refine (lok_any _ b t u hL0).mono ?_; rintro e w' ⟨rfl, hw2⟩; obtain rfl := hw2.symm; clear hw2)
  go_end0
  exact ⟨rfl, ⟨(heap_setCell_at hL0.blk).trans rfl, hL0.pos, hL0.le, by omega⟩, (Mod.refl (fun x => x = b) w).setCell ⟨b, 1, none⟩ _ (fun _ => rfl)⟩
theorem hear_no (w : World) (b m sp clk : Nat) (L : Ents Int) (H : Heard) (h : WatchAt w b m sp L clk H) (c : Int) (now : Nat) (hc : ¬ (0 ≤ c ∧ c < 8 ∧ now ≤ 1099511627775)) : Calls Try.prog 10 #[.pointer (some ⟨b, 0, none⟩), .int .i64 c, .int .u64 now] w
    fun e w' => e = .returned (.int .i64 2) ∧ w' = w := by
  have hwok := fun w h => wok_any w b m sp clk L H h
  have hL0 := h
  by_cases h1 : c < 0
  · go_enter Try.func10, Try.ntmps10
    go_wp2_with (go_at_call 26; refine (hwok _ hL0).mono ?_; rintro e w' ⟨rfl, hw2⟩; obtain rfl := hw2.symm; clear hw2)
    go_ret
    exact ⟨rfl, rfl⟩
  · have h1' : 0 ≤ c := by omega
    by_cases h2 : c < 8
    · have h3 : (1099511627775 : Int) < (now : Int) := by omega
      go_enter Try.func10, Try.ntmps10
      go_wp2_with (go_at_call 26; refine (hwok _ hL0).mono ?_; rintro e w' ⟨rfl, hw2⟩; obtain rfl := hw2.symm; clear hw2)
      go_ret
      exact ⟨rfl, rfl⟩
    · have h2' : 8 ≤ c := by omega
      go_enter Try.func10, Try.ntmps10
      go_wp2_with (go_at_call 26; refine (hwok _ hL0).mono ?_; rintro e w' ⟨rfl, hw2⟩; obtain rfl := hw2.symm; clear hw2)
      go_ret
      exact ⟨rfl, rfl⟩

/-- Whether and when a client was heard. -/
def heardV (H : Heard) (c : Int) : Value := match valOf H c with | some v => .tuple #[v, .bool true] | none => .tuple #[.int .u64 0, .bool false]
theorem heard_any (w : World) (b m sp clk : Nat) (L : Ents Int) (H : Heard) (h : WatchAt w b m sp L clk H) (c : Int) : Calls Try.prog 22 #[.pointer (some ⟨b, 0, none⟩), .int .i64 c] w
    fun e w' => e = .returned (heardV H c) ∧ w' = w := by
  have hL0 := h
  have c1 := h.c1
  have hmap := h.map
  have hv : (valOf H c = none ∧ heardV H c = .tuple #[.int .u64 0, .bool false]) ∨ ∃ t : Int, valOf H c = some (.int .u64 t) ∧ heardV H c = .tuple #[.int .u64 t, .bool true] := by
    cases hh : valOf H c with
    | none => exact .inl ⟨rfl, by simp [heardV, hh]⟩
    | some v =>
      unfold valOf at hh
      split at hh
      · cases hH : H c.toNat with
        | none => rw [hH] at hh; cases hh
        | some t =>
          rw [hH] at hh
          cases hh
          exact .inr ⟨t, rfl, by unfold heardV; rw [show valOf H c = some (.int .u64 (t : Int)) by unfold valOf; rw [if_pos (by assumption), hH]; rfl]⟩
      · cases hh
  rcases hv with ⟨hv, he⟩ | ⟨t, hv, he⟩
  · have hg : getD c L (.int .u64 0) = .int .u64 0 := by unfold getD; rw [h.get, hv]; rfl
    have hg2 : (Go.Tn.get c L).isSome = false := by rw [h.get, hv]; rfl
    rw [he]
    go_enter Try.func22, Try.ntmps22
    go_wp2_with (first
      | (go_at_call 26; refine (wok_any _ b m sp clk L H hL0).mono ?_; rintro e w' ⟨rfl, hw2⟩; obtain rfl := hw2.symm; clear hw2)
      | ((with_reducible refine wpList_exec rfl (exec_lookup_ok keyI Try.underlying62 zero64 hmap ?_ c ?_) ?_); rfl; rfl; go_frame)
      | fail)
    go_ret2
    exact ⟨rfl, rfl⟩
  · have hg : getD c L (.int .u64 0) = .int .u64 t := by unfold getD; rw [h.get, hv]; rfl
    have hg2 : (Go.Tn.get c L).isSome = true := by rw [h.get, hv]; rfl
    rw [he]
    go_enter Try.func22, Try.ntmps22
    go_wp2_with (first
      | (go_at_call 26; refine (wok_any _ b m sp clk L H hL0).mono ?_; rintro e w' ⟨rfl, hw2⟩; obtain rfl := hw2.symm; clear hw2)
      | ((with_reducible refine wpList_exec rfl (exec_lookup_ok keyI Try.underlying62 zero64 hmap ?_ c ?_) ?_); rfl; rfl; go_frame)
      | fail)
    go_ret2
    exact ⟨rfl, rfl⟩

def forgetH (H : Heard) (c : Int) : Heard := fun d => if (d : Int) = c then none else H d
theorem forget_any (w : World) (b m sp clk : Nat) (L : Ents Int) (H : Heard) (h : WatchAt w b m sp L clk H) (c : Int) : Calls Try.prog 21 #[.pointer (some ⟨b, 0, none⟩), .int .i64 c] w
    fun e w' => e = .returned (.tuple #[]) ∧ (∃ L', WatchAt w' b m sp L' clk (forgetH H c)) ∧ Mod (fun x => x = m) w w' := by
  have hL0 := h
  have c1 := h.c1
  have hmap := h.map
  have hend : WatchAt (setObjW w m (.map (ents encI (del c L)) clk)) b m sp (del c L) clk (forgetH H c) := by
    refine ⟨(setObjW_ne h.ne).trans h.blk, setObjW_at (lt_of_block h.map), h.wf.del, h.ne, h.sp1, h.sp2, fun k => ?_, fun d t hd => ?_⟩
    · rw [get_del h.wf, h.get]
      unfold valOf forgetH
      by_cases hk : k = c
      · subst hk
        rw [if_pos rfl]
        split
        · rw [if_pos (by omega)]; rfl
        · rfl
      · rw [if_neg hk]
        by_cases hr : 0 ≤ k ∧ k < 8
        · rw [if_pos hr, if_pos hr, if_neg (by omega)]
        · rw [if_neg hr, if_neg hr]
    · unfold forgetH at hd
      split at hd
      · cases hd
      · exact h.le d t hd
  have HE := Lib.hid hend
  clear hend
  go_enter Try.func21, Try.ntmps21
  go_wp2_with (first
    | (go_at_call 26; refine (wok_any _ b m sp clk L H hL0).mono ?_; rintro e w' ⟨rfl, hw2⟩; obtain rfl := hw2.symm; clear hw2)
    | ((with_reducible refine wpList_exec rfl (exec_delete keyI Try.underlying62 hmap ?_ c ?_) ?_); rfl; rfl; go_frame)
    | fail)
  go_end0
  exact ⟨rfl, ⟨_, HE.out⟩, setObjW_mod m _⟩
end Go.Proofs.Ytnlcnhanhompnaa
