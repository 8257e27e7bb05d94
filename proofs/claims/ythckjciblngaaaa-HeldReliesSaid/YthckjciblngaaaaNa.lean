/- Held: what is answered where New made nothing: each function walked. -/
import Derived.Test.YthckjciblngaaaaHd
namespace Go.Proofs.Ythckjciblngaaaa
open Go.RowKit Go.Tn Go.Maps Go.Sort Go.Shelf

/-- Nobody: nil, or a struct without a lease. -/
def NobH (w : World) (p : Value) : Prop := p = .pointer none ∨ ∃ b, p = .pointer (some ⟨b, 0, none⟩) ∧ w.cell? ⟨b, 0, none⟩ = some (.pointer none)
theorem NobH.below {w w' : World} {p : Value} (h : NobH w p) (hb : Below w.heap.size w w') : NobH w' p := by
  rcases h with h | ⟨b, h1, h2⟩
  · exact .inl h
  · exact .inr ⟨b, h1, (hb.cell (p := ⟨b, 0, none⟩) (World.block_lt_of_cell? w _ h2)).trans h2⟩
theorem ok_nob (w : World) (p : Value) (h : NobH w p) : Calls Try.prog 30 #[p] w fun e w' => e = .returned (.bool false) ∧ w' = w := by
  rcases h with rfl | ⟨b, rfl, c0⟩
  · go_enter Try.func30, Try.ntmps30
    go_wp2
    go_ret
    exact ⟨rfl, rfl⟩
  · go_enter Try.func30, Try.ntmps30
    go_wp2
    go_ret
    exact ⟨rfl, rfl⟩
theorem must_nob (w : World) (p : Value) (h : NobH w p) (k : Int) : Calls Try.prog 31 #[p, .int .i64 k] w fun e w' => e = .returned (.int .i64 1) ∧ w' = w := by
  go_enter Try.func31, Try.ntmps31
  go_wp2_with (go_at_call 30; refine (ok_nob _ p h).mono ?_; rintro e w ⟨rfl, rfl⟩)
  go_ret
  exact ⟨rfl, rfl⟩
theorem has_nob (w : World) (p : Value) (h : NobH w p) (i g : Int) (k : Int) : Calls Try.prog 50 #[p, .agg #[.int .i64 i, .int .i64 g], .int .i64 k] w fun e w' => e = .returned (.int .i64 1) ∧ Below w.heap.size w w' := by
  have hb : Below w.heap.size w (w.alloc (.cells #[.int .i64 i, .int .i64 g] 39)) := (Below.refl _ _).alloc (Nat.le_refl _) _
  have h := h.below hb
  go_enter Try.func50, Try.ntmps50
  go_wp2_with (go_at_call 31; refine (must_nob _ p h _).mono ?_; rintro e w ⟨rfl, rfl⟩)
  go_ret
  exact ⟨rfl, hb⟩
theorem phase_nob (w : World) (p : Value) (h : NobH w p) : Calls Try.prog 6 #[p] w fun e w' => e = .returned (.int .i64 0) ∧ w' = w := by
  go_enter Try.func6, Try.ntmps6
  go_wp2_with (go_at_call 30; refine (ok_nob _ p h).mono ?_; rintro e w ⟨rfl, rfl⟩)
  go_ret
  exact ⟨rfl, rfl⟩
theorem session_nob (w : World) (p : Value) (h : NobH w p) : Calls Try.prog 13 #[p] w fun e w' => e = .returned (.int .u64 0) ∧ w' = w := by
  go_enter Try.func13, Try.ntmps13
  go_wp2_with (go_at_call 30; refine (ok_nob _ p h).mono ?_; rintro e w ⟨rfl, rfl⟩)
  go_ret
  exact ⟨rfl, rfl⟩
theorem boot_nob (w : World) (p : Value) (h : NobH w p) : Calls Try.prog 7 #[p] w fun e w' => e = .returned (.int .u64 0) ∧ w' = w := by
  go_enter Try.func7, Try.ntmps7
  go_wp2_with (go_at_call 30; refine (ok_nob _ p h).mono ?_; rintro e w ⟨rfl, rfl⟩)
  go_ret
  exact ⟨rfl, rfl⟩
theorem until_nob (w : World) (p : Value) (h : NobH w p) : Calls Try.prog 15 #[p] w fun e w' => e = .returned (.int .u64 0) ∧ w' = w := by
  go_enter Try.func15, Try.ntmps15
  go_wp2_with (go_at_call 30; refine (ok_nob _ p h).mono ?_; rintro e w ⟨rfl, rfl⟩)
  go_ret
  exact ⟨rfl, rfl⟩
theorem live_nob (w : World) (p : Value) (h : NobH w p) (v : Int) : Calls Try.prog 16 #[p, .int .u64 v] w fun e w' => e = .returned (.bool false) ∧ w' = w := by
  go_enter Try.func16, Try.ntmps16
  go_wp2_with (go_at_call 30; refine (ok_nob _ p h).mono ?_; rintro e w ⟨rfl, rfl⟩)
  go_ret
  exact ⟨rfl, rfl⟩
theorem lose_nob (w : World) (p : Value) (h : NobH w p) (v : Int) : Calls Try.prog 17 #[p, .int .u64 v] w fun e w' => e = .returned (.slice none 0 0) ∧ w' = w := by
  go_enter Try.func17, Try.ntmps17
  go_wp2_with (go_at_call 30; refine (ok_nob _ p h).mono ?_; rintro e w ⟨rfl, rfl⟩)
  go_ret
  exact ⟨rfl, rfl⟩
theorem all_nob (w : World) (p : Value) (h : NobH w p) : Calls Try.prog 10 #[p] w fun e w' => e = .returned (.slice none 0 0) ∧ w' = w := by
  go_enter Try.func10, Try.ntmps10
  go_wp2_with (go_at_call 30; refine (ok_nob _ p h).mono ?_; rintro e w ⟨rfl, rfl⟩)
  go_ret
  exact ⟨rfl, rfl⟩
theorem wanted_nob (w : World) (p : Value) (h : NobH w p) : Calls Try.prog 18 #[p] w fun e w' => e = .returned (.slice none 0 0) ∧ w' = w := by
  go_enter Try.func18, Try.ntmps18
  go_wp2_with (go_at_call 30; refine (ok_nob _ p h).mono ?_; rintro e w ⟨rfl, rfl⟩)
  go_ret
  exact ⟨rfl, rfl⟩
theorem hack_nob (w : World) (p : Value) (h : NobH w p) (v : Int) : Calls Try.prog 28 #[p, .int .u64 v] w fun e w' => e = .returned (.int .i64 1) ∧ w' = w := by
  go_enter Try.func28, Try.ntmps28
  go_wp2_with (go_at_call 30; refine (ok_nob _ p h).mono ?_; rintro e w ⟨rfl, rfl⟩)
  go_ret
  exact ⟨rfl, rfl⟩
theorem open_nob (w : World) (p : Value) (h : NobH w p) (v : Int) : Calls Try.prog 19 #[p, .int .u64 v] w fun e w' => e = .returned (.int .i64 1) ∧ w' = w := by
  go_enter Try.func19, Try.ntmps19
  go_wp2_with (go_at_call 31; refine (must_nob _ p h _).mono ?_; rintro e w ⟨rfl, rfl⟩)
  go_ret
  exact ⟨rfl, rfl⟩
theorem reboot_nob (w : World) (p : Value) (h : NobH w p) (v : Int) : Calls Try.prog 20 #[p, .int .u64 v] w fun e w' => e = .returned (.int .i64 1) ∧ w' = w := by
  go_enter Try.func20, Try.ntmps20
  go_wp2_with (go_at_call 30; refine (ok_nob _ p h).mono ?_; rintro e w ⟨rfl, rfl⟩)
  go_ret
  exact ⟨rfl, rfl⟩
theorem settled_nob (w : World) (p : Value) (h : NobH w p) : Calls Try.prog 23 #[p] w fun e w' => e = .returned (.int .i64 1) ∧ w' = w := by
  go_enter Try.func23, Try.ntmps23
  go_wp2_with (go_at_call 31; refine (must_nob _ p h _).mono ?_; rintro e w ⟨rfl, rfl⟩)
  go_ret
  exact ⟨rfl, rfl⟩
theorem version_nob (w : World) (p : Value) (h : NobH w p) (i g : Int) : Calls Try.prog 14 #[p, .agg #[.int .i64 i, .int .i64 g]] w fun e w' => e = .returned (.int .u64 0) ∧ Below w.heap.size w w' := by
  have hb : Below w.heap.size w (w.alloc (.cells #[.int .i64 i, .int .i64 g] 39)) := (Below.refl _ _).alloc (Nat.le_refl _) _
  have h := h.below hb
  go_enter Try.func14, Try.ntmps14
  go_wp2_with (go_at_call 30; refine (ok_nob _ p h).mono ?_; rintro e w ⟨rfl, rfl⟩)
  go_ret
  exact ⟨rfl, hb⟩
theorem mode_nob (w : World) (p : Value) (h : NobH w p) (i g : Int) : Calls Try.prog 11 #[p, .agg #[.int .i64 i, .int .i64 g]] w fun e w' => e = .returned (.int .i64 0) ∧ Below w.heap.size w w' := by
  have hb : Below w.heap.size w (w.alloc (.cells #[.int .i64 i, .int .i64 g] 39)) := (Below.refl _ _).alloc (Nat.le_refl _) _
  have h := h.below hb
  go_enter Try.func11, Try.ntmps11
  go_wp2_with (go_at_call 31; refine (must_nob _ p h _).mono ?_; rintro e w ⟨rfl, rfl⟩)
  go_ret
  exact ⟨rfl, hb⟩
theorem grant_nob (w : World) (p : Value) (h : NobH w p) (i g : Int) (k v : Int) : Calls Try.prog 24 #[p, .agg #[.int .i64 i, .int .i64 g], .int .i64 k, .int .u64 v] w fun e w' => e = .returned (.int .i64 1) ∧ Below w.heap.size w w' := by
  have hb : Below w.heap.size w (w.alloc (.cells #[.int .i64 i, .int .i64 g] 39)) := (Below.refl _ _).alloc (Nat.le_refl _) _
  have h := h.below hb
  go_enter Try.func24, Try.ntmps24
  go_wp2_with (go_at_call 31; refine (must_nob _ p h _).mono ?_; rintro e w ⟨rfl, rfl⟩)
  go_ret
  exact ⟨rfl, hb⟩
theorem give_nob (w : World) (p : Value) (h : NobH w p) (i g : Int) : Calls Try.prog 25 #[p, .agg #[.int .i64 i, .int .i64 g]] w fun e w' => e = .returned (.int .i64 1) ∧ Below w.heap.size w w' := by
  have hb : Below w.heap.size w (w.alloc (.cells #[.int .i64 i, .int .i64 g] 39)) := (Below.refl _ _).alloc (Nat.le_refl _) _
  have h := h.below hb
  go_enter Try.func25, Try.ntmps25
  go_wp2_with (go_at_call 30; refine (ok_nob _ p h).mono ?_; rintro e w ⟨rfl, rfl⟩)
  go_ret
  exact ⟨rfl, hb⟩
theorem update_nob (w : World) (p : Value) (h : NobH w p) (i g : Int) (v : Int) : Calls Try.prog 26 #[p, .agg #[.int .i64 i, .int .i64 g], .int .u64 v] w fun e w' => e = .returned (.int .i64 1) ∧ Below w.heap.size w w' := by
  have hb : Below w.heap.size w (w.alloc (.cells #[.int .i64 i, .int .i64 g] 39)) := (Below.refl _ _).alloc (Nat.le_refl _) _
  have h := h.below hb
  go_enter Try.func26, Try.ntmps26
  go_wp2_with (go_at_call 30; refine (ok_nob _ p h).mono ?_; rintro e w ⟨rfl, rfl⟩)
  go_ret
  exact ⟨rfl, hb⟩
theorem want_nob (w : World) (p : Value) (h : NobH w p) (i g : Int) : Calls Try.prog 27 #[p, .agg #[.int .i64 i, .int .i64 g]] w fun e w' => e = .returned (.int .i64 1) ∧ Below w.heap.size w w' := by
  have hb : Below w.heap.size w (w.alloc (.cells #[.int .i64 i, .int .i64 g] 39)) := (Below.refl _ _).alloc (Nat.le_refl _) _
  have h := h.below hb
  go_enter Try.func27, Try.ntmps27
  go_wp2_with (go_at_call 31; refine (must_nob _ p h _).mono ?_; rintro e w ⟨rfl, rfl⟩)
  go_ret
  exact ⟨rfl, hb⟩
theorem claimed_nob (w : World) (p : Value) (h : NobH w p) (i g : Int) (v : Int) : Calls Try.prog 21 #[p, .agg #[.int .i64 i, .int .i64 g], .int .u64 v] w fun e w' => e = .returned (.int .i64 1) ∧ Below w.heap.size w w' := by
  have hb : Below w.heap.size w (w.alloc (.cells #[.int .i64 i, .int .i64 g] 39)) := (Below.refl _ _).alloc (Nat.le_refl _) _
  have hh := has_nob _ p (h.below hb) i g 1
  go_enter Try.func21, Try.ntmps21
  go_wp2_with fail
  refine hh.mono ?_
  rintro e w2 ⟨rfl, hb2⟩
  go_wp2
  go_ret
  exact ⟨rfl, hb.trans (hb2.mono (by simp))⟩
theorem unclaimed_nob (w : World) (p : Value) (h : NobH w p) (i g : Int) : Calls Try.prog 22 #[p, .agg #[.int .i64 i, .int .i64 g]] w fun e w' => e = .returned (.int .i64 1) ∧ Below w.heap.size w w' := by
  have hb : Below w.heap.size w (w.alloc (.cells #[.int .i64 i, .int .i64 g] 39)) := (Below.refl _ _).alloc (Nat.le_refl _) _
  have hh := has_nob _ p (h.below hb) i g 1
  go_enter Try.func22, Try.ntmps22
  go_wp2_with fail
  refine hh.mono ?_
  rintro e w2 ⟨rfl, hb2⟩
  go_wp2
  go_ret
  exact ⟨rfl, hb.trans (hb2.mono (by simp))⟩
theorem claim_nob (w : World) (p : Value) (h : NobH w p) : Calls Try.prog 8 #[p] w fun e w' => e = .returned (.tuple #[.agg #[.int .i64 0, .int .i64 0], .int .i64 0, .bool false]) ∧ Below w.heap.size w w' := by
  have hb : Below w.heap.size w (w.alloc (.cells #[.int .i64 0, .int .i64 0] 39)) := (Below.refl _ _).alloc (Nat.le_refl _) _
  have h := h.below hb
  go_enter Try.func8, Try.ntmps8
  go_wp2_with (go_at_call 31; refine (must_nob _ p h _).mono ?_; rintro e w ⟨rfl, rfl⟩)
  exact bodyPost_ret (v := .tuple #[.agg #[.int .i64 0, .int .i64 0], .int .i64 0, .bool false]) (by simp [results, Try.results8, go_sem]) rfl ⟨rfl, hb⟩
end Go.Proofs.Ythckjciblngaaaa
