/- Watches in memory, and walks of their functions. -/
import Derived.Test.YtnlcnhanhompnaaWa
import Derived.WalkSpells
namespace Go.Proofs.Ytnlcnhanhompnaa
open Go.RowKit Go.Tn

/-- Each of the 8 clients: whether and when it was heard. -/
abbrev Heard := Nat → Option Nat
def valOf (H : Heard) (k : Int) : Option Value := if 0 ≤ k ∧ k < 8 then (H k.toNat).map (fun t => Value.int .u64 (t : Int)) else none
/-- A watch: at block b, its map at block m. -/
structure WatchAt (w : World) (b m sp : Nat) (L : Ents Int) (clk : Nat) (H : Heard) : Prop where
  blk : w.heap[b]? = some (.cells #[.int .u64 sp, .map (some m)] 64 (0, 0))
  map : w.heap[m]? = some (.map (ents encI L) clk)
  wf : WF L clk
  ne : b ≠ m
  sp1 : 1 ≤ sp
  sp2 : sp ≤ 16384
  get : ∀ k, get k L = valOf H k
  le : ∀ c t, H c = some t → t ≤ 1099511627775
theorem WatchAt.mod {w w' : World} {b m sp clk : Nat} {L : Ents Int} {H : Heard} {S : Nat → Prop} (h : WatchAt w b m sp L clk H) (hm : Mod S w w') (hS : ¬ S b) (hS' : ¬ S m) : WatchAt w' b m sp L clk H :=
  ⟨hm.heap h.blk hS, hm.heap h.map hS', h.wf, h.ne, h.sp1, h.sp2, h.get, h.le⟩
theorem WatchAt.c0 {w : World} {b m sp clk : Nat} {L : Ents Int} {H : Heard} (h : WatchAt w b m sp L clk H) : w.cell? ⟨b, 0, none⟩ = some (.int .u64 sp) := cell_of h.blk rfl
theorem WatchAt.c1 {w : World} {b m sp clk : Nat} {L : Ents Int} {H : Heard} (h : WatchAt w b m sp L clk H) : w.cell? ⟨b, 1, none⟩ = some (.map (some m)) := cell_of h.blk rfl
theorem keyI : KeyOK Try.prog 3 encI where
  now := ⟨_, Try.underlying3, fun a b => by
    right
    simp only [Instr.sameNow, encI]
    rfl⟩
  eq := fun w a b => by
    have e : (a == b) = decide (a = b) := rfl
    simp [encI, Op.equal, Op.maxDepth, go_sem, e]
  chk := fun e w a => by
    have h : ∀ n, (Instr.checkKey e (n + 4) 3 (encI a)).run Try.prog w = .ok () w := fun n => by
      simp [encI, Instr.checkKey, underlying, part, go_sem]
    exact h 9996
  bits := fun a => by simp [encI, Instr.sameBits]
theorem zero64 : ∀ w, (zeroValue 24).run Try.prog w = .ok (.int .u64 0) w := fun w => by kernel_rfl

theorem wok_any (w : World) (b m sp clk : Nat) (L : Ents Int) (H : Heard) (h : WatchAt w b m sp L clk H) : Calls Try.prog 26 #[.pointer (some ⟨b, 0, none⟩)] w fun e w' => e = .returned (.bool true) ∧ w' = w := by
  have c := h.c1
  have nmap := fun w => run_neq_map_nil (P := Try.prog) w 62 3 24 (some m) Try.underlying62
  go_enter Try.func26, Try.ntmps26
  go_wp2
  go_ret
  exact ⟨rfl, rfl⟩

theorem newWatch_ok (w : World) (sp : Nat) (h1 : 1 ≤ sp) (h2 : sp ≤ 16384) : Calls Try.prog 9 #[.int .u64 sp] w
    fun e w' => ∃ b m, e = .returned (.tuple #[.pointer (some ⟨b, 0, none⟩), .int .i64 0]) ∧ WatchAt w' b m sp [] 0 (fun _ => none) ∧ w.heap.size ≤ b ∧ w.heap.size ≤ m ∧ Below w.heap.size w w' := by
  have h1' : (1 : Int) ≤ (sp : Int) := by omega
  have h2' : (sp : Int) ≤ 16384 := by omega
  have hmm := @run_makeMap Try.prog
  go_enter Try.func9, Try.ntmps9
  go_wp2
  go_ret2
  have e : (w.alloc (.map #[] 0)).heap.size = w.heap.size + 1 := by simp
  refine ⟨_, w.heap.size, rfl, ⟨by rw [← e]; exact heap_alloc_at, heap_alloc_of heap_alloc_at, WF.nil 0, ?_, h1, h2, fun k => ?_, fun c t h => by cases h⟩, ?_, Nat.le_refl _, ((Below.refl _ _).alloc (Nat.le_refl _) _).alloc ?_ _⟩
  · simp
  · unfold valOf
    split <;> rfl
  · simp
  · simp

def hearH (H : Heard) (c now : Nat) : Heard := fun d => if d = c then some (max ((H c).getD 0) now) else H d

theorem hear_ok (w : World) (b m sp clk : Nat) (L : Ents Int) (H : Heard) (h : WatchAt w b m sp L clk H) (c now : Nat) (hc : c < 8) (hn : now ≤ 1099511627775) : Calls Try.prog 10 #[.pointer (some ⟨b, 0, none⟩), .int .i64 c, .int .u64 now] w
    fun e w' => e = .returned (.int .i64 0) ∧ (∃ L' clk', WatchAt w' b m sp L' clk' (hearH H c now)) ∧ Mod (fun x => x = m) w w' := by
  have hL0 := h
  have c1 := h.c1
  have hc' : (c : Int) < 8 := by omega
  have hn' : (now : Int) ≤ 1099511627775 := by omega
  obtain ⟨old, hold⟩ : ∃ old, (H c).getD 0 = old := ⟨_, rfl⟩
  have hg : getD (c : Int) L (.int .u64 0) = .int .u64 old := by
    unfold getD
    rw [h.get, valOf, if_pos (by omega), Int.toNat_natCast, ← hold]
    cases H c <;> rfl
  have hwok := fun w h => wok_any w b m sp clk L H h
  obtain ⟨mx, hmx⟩ : ∃ mx, max old now = mx := ⟨_, rfl⟩
  have hcmp : ((now : Int) ≤ (old : Int) ∧ mx = old) ∨ ((old : Int) < (now : Int) ∧ mx = now) := by omega
  have hle : mx ≤ 1099511627775 := by
    rw [← hmx]
    have : old ≤ 1099511627775 := by
      rw [← hold]
      cases hH : H c with
      | none => simp
      | some t => exact h.le c t hH
    omega
  have hend : ∀ w', WatchAt w' b m sp L clk H → WatchAt (setObjW w' m (.map (ents encI (upd (c : Int) (.int .u64 mx) L clk)) (updClk (c : Int) L clk))) b m sp (upd (c : Int) (.int .u64 mx) L clk) (updClk (c : Int) L clk) (hearH H c now) := fun w' h' => by
    refine ⟨(setObjW_ne h'.ne).trans h'.blk, setObjW_at (lt_of_block h'.map), h'.wf.upd, h'.ne, h'.sp1, h'.sp2, fun k => ?_, fun d t hd => ?_⟩
    · rw [get_upd h'.wf, h'.get]
      unfold valOf hearH
      by_cases hk : k = (c : Int)
      · subst hk
        rw [if_pos rfl, if_pos (by omega)]
        simp [hold, hmx]
      · rw [if_neg hk]
        by_cases hr : 0 ≤ k ∧ k < 8
        · rw [if_pos hr, if_pos hr, if_neg (by omega)]
        · rw [if_neg hr, if_neg hr]
    · unfold hearH at hd
      split at hd
      · cases hd; rw [hold, hmx]; exact hle
      · exact h'.le d t hd
  have HE := Lib.hid hend
  have hmap := h.map
  clear hend hle
  rcases hcmp with ⟨hcmp, rfl⟩ | ⟨hcmp, rfl⟩
  all_goals
    clear hmx hold
    go_enter Try.func10, Try.ntmps10
    go_upto_region 5 with (go_at_call 26; refine (hwok _ hL0).mono ?_; rintro e w' ⟨rfl, hw2⟩; obtain rfl := hw2.symm; clear hw2)
    refine wp_region_x (fun w' => w'.cell? ⟨b, 1, none⟩ = some (.map (some m)) ∧ w'.heap[m]? = some (.map (ents encI L) clk)) [(0, 1), (1, 1), (2, 1), (3, 0), (4, 1), (5, 1), (6, 1), (7, 1), (8, 0), (9, 1), (10, 0), (11, 1), (12, 1), (13, 3)] (by kernel_rfl) (by kernel_rfl) (by intro d v c a w h; cases d <;> exact h) ?_
    iterate 3 (refine x_take rfl (fun K hK => ?_); go_simp; refine hK _ ?_; clear hK K)
    refine x_read rfl ⟨c1, hmap⟩ (fun w' h => exec_load1 ⟨⟨_, Try.underlying62, rfl⟩⟩ rfl h.1) ?_
    iterate 4 (refine x_take rfl (fun K hK => ?_); go_simp; refine hK _ ?_; clear hK K)
    refine x_read rfl ⟨c1, hmap⟩ (fun w' h => exec_load1 ⟨⟨_, Try.underlying62, rfl⟩⟩ rfl h.1) ?_
    iterate 1 (refine x_take rfl (fun K hK => ?_); go_simp; refine hK _ ?_; clear hK K)
    refine x_read rfl ⟨c1, hmap⟩ (fun w' h => exec_lookup keyI Try.underlying62 zero64 h.2 rfl (c : Int) rfl) ?_
    rw [hg]
    iterate 2 (refine x_take rfl (fun K hK => ?_); go_simp; refine hK _ ?_; clear hK K)
    refine x_skip rfl (exec_mapUpdate (w := w.drew) keyI Try.underlying62 hmap rfl (c : Int) rfl) ?_
    refine x_nil ?_
    go_wp2
    go_ret
    exact ⟨rfl, ⟨_, _, HE.out _ ⟨hL0.blk, hL0.map, hL0.wf, hL0.ne, hL0.sp1, hL0.sp2, hL0.get, hL0.le⟩⟩, (Mod.refl _ w).drew.trans (setObjW_mod m _) (fun _ h => h) (fun _ _ h => h)⟩
end Go.Proofs.Ytnlcnhanhompnaa
