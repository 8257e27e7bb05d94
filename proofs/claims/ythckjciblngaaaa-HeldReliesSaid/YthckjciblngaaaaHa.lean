/- Leases in memory, walked; what a client believes of a server: in memory. -/
import Derived.Test.YthckjciblngaaaaFi
namespace Go.Proofs.Ythckjciblngaaaa
open Go.RowKit Go.Tn Go.Maps Go.Sort Go.Shelf

/-- A lease of term t that lasts until u. -/
structure LeaseAt (w : World) (b t u : Nat) : Prop where
  blk : w.heap[b]? = some (.cells #[.int .u64 t, .int .u64 u] 87 (0, 0))
  pos : 1 ≤ t
  le : t ≤ 1024
  ule : u ≤ 1099511627775 + 1024
theorem LeaseAt.mod {w w' : World} {b t u : Nat} {S : Nat → Prop} (h : LeaseAt w b t u) (hm : Mod S w w') (hS : ¬ S b) : LeaseAt w' b t u := ⟨hm.heap h.blk hS, h.pos, h.le, h.ule⟩
theorem LeaseAt.lt {w : World} {b t u : Nat} (h : LeaseAt w b t u) : b < w.heap.size := lt_of_block h.blk
theorem LeaseAt.c0 {w : World} {b t u : Nat} (h : LeaseAt w b t u) : w.cell? ⟨b, 0, none⟩ = some (.int .u64 t) := cell_of h.blk rfl
theorem LeaseAt.c1 {w : World} {b t u : Nat} (h : LeaseAt w b t u) : w.cell? ⟨b, 1, none⟩ = some (.int .u64 u) := cell_of h.blk rfl
theorem LeaseAt.free {w : World} {b t u : Nat} (h : LeaseAt w b t u) {o : Nat} : w.frozen? ⟨b, o, none⟩ = false := free_of h.blk
theorem scalar64 : ScalarT Try.prog 32 := ⟨⟨_, Try.underlying32, rfl⟩⟩
theorem size64 : (Try.prog.info? 32).map (·.size) = some 1 := by kernel_rfl

theorem may_any (w : World) (x : Int) : Calls Try.prog 55 #[.int .i64 x] w fun e w' => e = .returned (.bool (decide (1 ≤ x ∧ x ≤ 1024))) ∧ w' = w := by
  by_cases h1 : 1 ≤ x
  · by_cases h2 : x ≤ 1024
    · go_enter Try.func55, Try.ntmps55
      go_wp2
      go_ret
      exact ⟨by rw [decide_eq_true (by omega)]; rfl, rfl⟩
    · have h2' : 1024 < x := by omega
      go_enter Try.func55, Try.ntmps55
      go_wp2
      go_ret
      exact ⟨by rw [decide_eq_false (by omega)]; rfl, rfl⟩
  · have h1' : x < 1 := by omega
    go_enter Try.func55, Try.ntmps55
    go_wp2
    go_ret
    exact ⟨by rw [decide_eq_false (by omega)]; rfl, rfl⟩
theorem lok_any (w : World) (b t u : Nat) (h : LeaseAt w b t u) : Calls Try.prog 66 #[.pointer (some ⟨b, 0, none⟩)] w fun e w' => e = .returned (.bool true) ∧ w' = w := by
  have c := h.c0
  have hp : 0 < t := h.pos
  go_enter Try.func66, Try.ntmps66
  go_wp2
  go_ret
  exact ⟨rfl, rfl⟩
theorem until_any (w : World) (b t u : Nat) (h : LeaseAt w b t u) : Calls Try.prog 46 #[.pointer (some ⟨b, 0, none⟩)] w fun e w' => e = .returned (.int .u64 u) ∧ w' = w := by
  have c := h.c1
  go_enter Try.func46, Try.ntmps46
  go_wp2_with (go_at_call 66; refine (lok_any _ b t u h).mono ?_; rintro e w ⟨rfl, rfl⟩)
  go_ret
  exact ⟨rfl, rfl⟩
theorem live_any (w : World) (b t u : Nat) (h : LeaseAt w b t u) (now : Nat) : Calls Try.prog 47 #[.pointer (some ⟨b, 0, none⟩), .int .u64 now] w
    fun e w' => e = .returned (.bool (decide (now < u ∧ now ≤ 1099511627775))) ∧ w' = w := by
  by_cases h1 : now < u
  · have h1' : (now : Int) < (u : Int) := by omega
    by_cases h2 : now ≤ 1099511627775
    · have h2' : (now : Int) ≤ 1099511627775 := by omega
      go_enter Try.func47, Try.ntmps47
      go_wp2_with (go_at_call 46; refine (until_any _ b t u h).mono ?_; rintro e w ⟨rfl, rfl⟩)
      go_ret
      exact ⟨by rw [decide_eq_true (show now < u ∧ now ≤ 1099511627775 by omega)]; rfl, rfl⟩
    · have h2' : (1099511627775 : Int) < (now : Int) := by omega
      have hdec : decide ((now : Int) ≤ 1099511627775) = false := by simp; omega
      go_enter Try.func47, Try.ntmps47
      go_wp2_with (go_at_call 46; refine (until_any _ b t u h).mono ?_; rintro e w ⟨rfl, rfl⟩)
      go_ret
      exact ⟨by rw [decide_eq_false (show ¬ (now < u ∧ now ≤ 1099511627775) by omega)]; rfl, rfl⟩
  · have h1' : (u : Int) ≤ (now : Int) := by omega
    go_enter Try.func47, Try.ntmps47
    go_wp2_with (go_at_call 46; refine (until_any _ b t u h).mono ?_; rintro e w ⟨rfl, rfl⟩)
    go_ret
    exact ⟨by rw [decide_eq_false (show ¬ (now < u ∧ now ≤ 1099511627775) by omega)]; rfl, rfl⟩
theorem newLease_ok (w : World) (t : Nat) (h1 : 1 ≤ t) (h2 : t ≤ 1024) : Calls Try.prog 29 #[.int .i64 t] w
    fun e w' => e = .returned (.tuple #[.pointer (some ⟨w.heap.size, 0, none⟩), .int .i64 0]) ∧ LeaseAt w' w.heap.size t 0 ∧ Below w.heap.size w w' := by
  have hm := fun w => may_any w (t : Int)
  rw [decide_eq_true (show 1 ≤ (t : Int) ∧ (t : Int) ≤ 1024 by omega)] at hm
  go_enter Try.func29, Try.ntmps29
  go_wp2_with (go_at_call 55; refine (hm _).mono ?_; rintro e w ⟨rfl, rfl⟩)
  go_ret2
  exact ⟨rfl, ⟨heap_alloc_at, h1, h2, by omega⟩, (Below.refl _ _).alloc (Nat.le_refl _) _⟩
theorem ack_ok (w : World) (b t u : Nat) (h : LeaseAt w b t u) (s : Nat) (hs : s ≤ 1099511627775) : Calls Try.prog 54 #[.pointer (some ⟨b, 0, none⟩), .int .u64 s] w
    fun e w' => e = .returned (.int .i64 0) ∧ LeaseAt w' b t (max u (s + t)) ∧ Mod (fun x => x = b) w w' := by
  have c0 := h.c0
  have c1 := h.c1
  have hs' : (s : Int) ≤ 1099511627775 := by omega
  have hp := h.le
  have hu := h.ule
  have hL0 := h
  go_enter Try.func54, Try.ntmps54
  go_upto_region 5 with (go_at_call 66; refine (lok_any _ b t u h).mono ?_; rintro e w ⟨rfl, rfl⟩)
  refine wp_region_x (fun w' => w'.cell? ⟨b, 1, none⟩ = some (.int .u64 u) ∧ w'.cell? ⟨b, 0, none⟩ = some (.int .u64 t)) [(0, 1), (1, 1), (2, 1), (3, 1), (4, 0), (5, 1), (6, 1), (7, 1), (8, 1), (9, 0), (10, 1), (11, 1), (12, 1), (13, 1), (14, 3)] (by kernel_rfl) (by kernel_rfl) (by intro d v c a w h; cases d <;> exact h) ?_
  iterate 4 (refine x_take rfl (fun K hK => ?_); go_simp; refine hK _ ?_; clear hK K)
  refine x_read rfl ⟨c1, c0⟩ (fun w' h => exec_load1 scalar64 rfl h.1) ?_
  iterate 4 (refine x_take rfl (fun K hK => ?_); go_simp; refine hK _ ?_; clear hK K)
  refine x_read rfl ⟨c1, c0⟩ (fun w' h => exec_load1 scalar64 rfl h.2) ?_
  iterate 4 (refine x_take rfl (fun K hK => ?_); go_simp; refine hK _ ?_; clear hK K)
  refine x_skip rfl (exec_store1 scalar64 size64 rfl rfl rfl c1 hL0.free) ?_
  refine x_nil ?_
  go_wp2
  go_ret
  refine ⟨rfl, ⟨(heap_setCell_at hL0.blk).trans ?_, hL0.pos, hL0.le, by omega⟩, ((Mod.refl (fun x => x = b) w).setCell ⟨b, 1, none⟩ _ (fun _ => rfl)).drew⟩
  have e : max (u : Int) ((s : Int) + (t : Int)) = ((max u (s + t) : Nat) : Int) := by omega
  rw [e]
  rfl
theorem ack_late (w : World) (b t u : Nat) (h : LeaseAt w b t u) (s : Int) (hs : 1099511627775 < s) : Calls Try.prog 54 #[.pointer (some ⟨b, 0, none⟩), .int .u64 s] w
    fun e w' => e = .returned (.int .i64 2) ∧ w' = w := by
  go_enter Try.func54, Try.ntmps54
  go_wp2_with (go_at_call 66; refine (lok_any _ b t u h).mono ?_; rintro e w ⟨rfl, rfl⟩)
  go_ret
  exact ⟨rfl, rfl⟩
theorem lapse_any (w : World) (b t u : Nat) (h : LeaseAt w b t u) : Calls Try.prog 48 #[.pointer (some ⟨b, 0, none⟩)] w
    fun e w' => e = .returned (.tuple #[]) ∧ LeaseAt w' b t 0 ∧ Mod (fun x => x = b) w w' := by
  have c1 := h.c1
  have f1 := h.free (o := 1)
  have hL0 := h
  go_enter Try.func48, Try.ntmps48
  go_wp2_with (go_at_call 66; refine (lok_any _ b t u h).mono ?_; rintro e w ⟨rfl, rfl⟩)
  go_end0
  exact ⟨rfl, ⟨heap_setCell_at hL0.blk, hL0.pos, hL0.le, by omega⟩, (Mod.refl (fun x => x = b) w).setCell ⟨b, 1, none⟩ _ (fun _ => rfl)⟩

/-- What it has of a file. -/
structure One where
  mode : Int
  ver : Int
  cl : Bool
def enO (o : One) : Value := .agg #[.int .i64 o.mode, .int .u64 o.ver, .bool o.cl]
abbrev Gs := Fi → Option One
theorem zeroO : ∀ w, (zeroValue 68).run Try.prog w = .ok (enO ⟨0, 0, false⟩) w := fun w => by kernel_rfl
theorem aggO (o : One) : AggT Try.prog 68 (#[.int .i64 o.mode, .int .u64 o.ver, .bool o.cl] : Array Value).size := ⟨⟨_, Try.underlying68, rfl⟩, by kernel_rfl⟩
theorem scalarInt : ScalarT Try.prog 3 := ⟨⟨_, Try.underlying3, rfl⟩⟩
theorem scalarFiles : ScalarT Try.prog 34 := ⟨⟨_, Try.underlying34, rfl⟩⟩

/-- What a client believes: at block b, the lease at lb, the map at m. -/
structure HAt (w : World) (b m lb : Nat) (ph se bo : Int) (L : Ents Fi) (clk : Nat) (G : Gs) (wv : Value) (W : List Fi) (t u : Nat) : Prop where
  blk : w.heap[b]? = some (.cells #[.pointer (some ⟨lb, 0, none⟩), .int .i64 ph, .int .u64 se, .int .u64 bo, .map (some m), wv] 54 (0, 0))
  lease : LeaseAt w lb t u
  map : w.heap[m]? = some (.map (ents encF L) clk)
  wf : WF L clk
  get : ∀ f, get f L = (G f).map enO
  wants : LOut enF 2 39 0 w wv W
  bm : b ≠ m
  bl : b ≠ lb
  ml : m ≠ lb
  own : ∀ r, wv.ownBlock = some r → r ≠ b ∧ r ≠ m ∧ r ≠ lb
/-- Its blocks. -/
def foot (b m lb : Nat) (wv : Value) : Nat → Prop := fun x => x = b ∨ x = m ∨ x = lb ∨ wv.ownBlock = some x
section
variable {w w' : World} {b m lb : Nat} {ph se bo : Int} {L : Ents Fi} {clk : Nat} {G : Gs} {wv : Value} {W : List Fi} {t u : Nat}
theorem HAt.b_lt (h : HAt w b m lb ph se bo L clk G wv W t u) : b < w.heap.size := lt_of_block h.blk
theorem HAt.m_lt (h : HAt w b m lb ph se bo L clk G wv W t u) : m < w.heap.size := lt_of_block h.map
theorem HAt.l_lt (h : HAt w b m lb ph se bo L clk G wv W t u) : lb < w.heap.size := h.lease.lt
theorem HAt.foot_lt (h : HAt w b m lb ph se bo L clk G wv W t u) : ∀ x, foot b m lb wv x → x < w.heap.size := fun x hx => by
  rcases hx with rfl | rfl | rfl | hx
  · exact h.b_lt
  · exact h.m_lt
  · exact h.l_lt
  · exact h.wants.lt hx
theorem HAt.mod {S : Nat → Prop} (h : HAt w b m lb ph se bo L clk G wv W t u) (hm : Mod S w w') (hS : ∀ x, foot b m lb wv x → ¬ S x) : HAt w' b m lb ph se bo L clk G wv W t u :=
  ⟨hm.heap h.blk (hS b (.inl rfl)), h.lease.mod hm (hS lb (.inr (.inr (.inl rfl)))), hm.heap h.map (hS m (.inr (.inl rfl))), h.wf, h.get, h.wants.kept hm.size fun r hr => hm.block r (h.wants.lt hr) (hS r (.inr (.inr (.inr hr)))), h.bm, h.bl, h.ml, h.own⟩
theorem HAt.below (h : HAt w b m lb ph se bo L clk G wv W t u) (hb : Below w.heap.size w w') : HAt w' b m lb ph se bo L clk G wv W t u :=
  h.mod (Mod.of_below hb) fun x hx hh => absurd (h.foot_lt x hx) (Nat.not_lt.2 hh)
theorem HAt.c0 (h : HAt w b m lb ph se bo L clk G wv W t u) : w.cell? ⟨b, 0, none⟩ = some (.pointer (some ⟨lb, 0, none⟩)) := cell_of h.blk rfl
theorem HAt.c1 (h : HAt w b m lb ph se bo L clk G wv W t u) : w.cell? ⟨b, 1, none⟩ = some (.int .i64 ph) := cell_of h.blk rfl
theorem HAt.c2 (h : HAt w b m lb ph se bo L clk G wv W t u) : w.cell? ⟨b, 2, none⟩ = some (.int .u64 se) := cell_of h.blk rfl
theorem HAt.c3 (h : HAt w b m lb ph se bo L clk G wv W t u) : w.cell? ⟨b, 3, none⟩ = some (.int .u64 bo) := cell_of h.blk rfl
theorem HAt.c4 (h : HAt w b m lb ph se bo L clk G wv W t u) : w.cell? ⟨b, 4, none⟩ = some (.map (some m)) := cell_of h.blk rfl
theorem HAt.c5 (h : HAt w b m lb ph se bo L clk G wv W t u) : w.cell? ⟨b, 5, none⟩ = some wv := cell_of h.blk rfl
theorem HAt.free (h : HAt w b m lb ph se bo L clk G wv W t u) {o : Nat} : w.frozen? ⟨b, o, none⟩ = false := free_of h.blk
theorem HAt.getO (h : HAt w b m lb ph se bo L clk G wv W t u) (f : Fi) : Go.Tn.getD f L (enO ⟨0, 0, false⟩) = enO ((G f).getD ⟨0, 0, false⟩) := by
  unfold Go.Tn.getD
  rw [h.get]
  cases G f <;> rfl
end

/-! ### The smallest functions -/
theorem ok_any (w : World) (b lb : Nat) (h : w.cell? ⟨b, 0, none⟩ = some (.pointer (some ⟨lb, 0, none⟩))) : Calls Try.prog 30 #[.pointer (some ⟨b, 0, none⟩)] w fun e w' => e = .returned (.bool true) ∧ w' = w := by
  go_enter Try.func30, Try.ntmps30
  go_wp2
  go_ret
  exact ⟨rfl, rfl⟩
section
variable {w : World} {b m lb : Nat} {ph se bo : Int} {L : Ents Fi} {clk : Nat} {G : Gs} {wv : Value} {W : List Fi} {t u : Nat}
theorem phase_any (h : HAt w b m lb ph se bo L clk G wv W t u) : Calls Try.prog 6 #[.pointer (some ⟨b, 0, none⟩)] w fun e w' => e = .returned (.int .i64 ph) ∧ w' = w := by
  have c0 := h.c0
  have c1 := h.c1
  go_enter Try.func6, Try.ntmps6
  go_wp2_with (go_at_call 30; refine (ok_any _ b lb c0).mono ?_; rintro e w ⟨rfl, rfl⟩)
  go_ret
  exact ⟨rfl, rfl⟩
theorem session_any (h : HAt w b m lb ph se bo L clk G wv W t u) : Calls Try.prog 13 #[.pointer (some ⟨b, 0, none⟩)] w fun e w' => e = .returned (.int .u64 se) ∧ w' = w := by
  have c0 := h.c0
  have c1 := h.c2
  go_enter Try.func13, Try.ntmps13
  go_wp2_with (go_at_call 30; refine (ok_any _ b lb c0).mono ?_; rintro e w ⟨rfl, rfl⟩)
  go_ret
  exact ⟨rfl, rfl⟩
theorem boot_any (h : HAt w b m lb ph se bo L clk G wv W t u) : Calls Try.prog 7 #[.pointer (some ⟨b, 0, none⟩)] w fun e w' => e = .returned (.int .u64 bo) ∧ w' = w := by
  have c0 := h.c0
  have c1 := h.c3
  go_enter Try.func7, Try.ntmps7
  go_wp2_with (go_at_call 30; refine (ok_any _ b lb c0).mono ?_; rintro e w ⟨rfl, rfl⟩)
  go_ret
  exact ⟨rfl, rfl⟩
theorem must_yes (h : HAt w b m lb ph se bo L clk G wv W t u) : Calls Try.prog 31 #[.pointer (some ⟨b, 0, none⟩), .int .i64 ph] w fun e w' => e = .returned (.int .i64 0) ∧ w' = w := by
  have c0 := h.c0
  have c1 := h.c1
  go_enter Try.func31, Try.ntmps31
  go_wp2_with (go_at_call 30; refine (ok_any _ b lb c0).mono ?_; rintro e w ⟨rfl, rfl⟩)
  go_ret
  exact ⟨rfl, rfl⟩
theorem must_no (h : HAt w b m lb ph se bo L clk G wv W t u) {p : Int} (hp : ph ≠ p) : Calls Try.prog 31 #[.pointer (some ⟨b, 0, none⟩), .int .i64 p] w fun e w' => e = .returned (.int .i64 2) ∧ w' = w := by
  have c0 := h.c0
  have c1 := h.c1
  have t1 : (ph != p) = true := by simpa using hp
  clear hp
  go_enter Try.func31, Try.ntmps31
  go_wp2_with (go_at_call 30; refine (ok_any _ b lb c0).mono ?_; rintro e w ⟨rfl, rfl⟩)
  go_ret
  exact ⟨rfl, rfl⟩
theorem must_any (h : HAt w b m lb ph se bo L clk G wv W t u) (p : Int) : Calls Try.prog 31 #[.pointer (some ⟨b, 0, none⟩), .int .i64 p] w fun e w' => e = .returned (.int .i64 (if ph = p then 0 else 2)) ∧ w' = w := by
  by_cases hp : ph = p
  · subst hp
    rw [if_pos rfl]
    exact must_yes h
  · rw [if_neg hp]
    exact must_no h hp
end
end Go.Proofs.Ythckjciblngaaaa
