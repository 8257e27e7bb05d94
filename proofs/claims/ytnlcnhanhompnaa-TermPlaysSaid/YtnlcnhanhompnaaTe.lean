/- The document's watch in memory: Hear and Late walked. -/
import Derived.Test.YtnlcnhanhompnaaTd
namespace Go.Proofs.Ytnlcnhanhompnaa
open Go.RowKit Go.Tn

/-- The document's watch: its cells C, at block b. -/
structure RWatchAt (w : World) (b sp : Nat) (C : Array Value) (H : Heard) : Prop where
  blk : w.heap[b]? = some (.cells C 49 (0, 0))
  size : C.size = 17
  sp_ : C[0]? = some (.int .u64 sp)
  is_ : ∀ c, c < 8 → C[1 + c]? = some (.bool (H c).isSome)
  at_ : ∀ c, c < 8 → ∃ a : Nat, C[9 + c]? = some (.int .u64 a) ∧ ∀ t, H c = some t → a = t
theorem RWatchAt.mod {w w' : World} {b sp : Nat} {C : Array Value} {H : Heard} {S : Nat → Prop} (h : RWatchAt w b sp C H) (hm : Mod S w w') (hS : ¬ S b) : RWatchAt w' b sp C H := ⟨hm.heap h.blk hS, h.size, h.sp_, h.is_, h.at_⟩

def rHearC (C : Array Value) (c : Nat) (x : Option Nat) : Array Value :=
  match x with
  | some now => (C.setIfInBounds (9 + c) (.int .u64 now)).setIfInBounds (1 + c) (.bool true)
  | none => C.setIfInBounds (1 + c) (.bool true)

theorem RWatchAt.heard {w w' : World} {b sp : Nat} {C : Array Value} {H : Heard} (h : RWatchAt w b sp C H) {c now : Nat} (hc : c < 8) {x : Option Nat} (hx : (x = some now ∧ (H c).getD 0 ≤ now) ∨ (x = none ∧ ∃ t, H c = some t ∧ now ≤ t))
    (hb : w'.heap[b]? = some (.cells (rHearC C c x) 49 (0, 0))) : RWatchAt w' b sp (rHearC C c x) (hearH H c now) := by
  have hsz := h.size
  rcases hx with ⟨rfl, hle⟩ | ⟨rfl, t, ht, hle⟩
  · have hmx : max ((H c).getD 0) now = now := by omega
    refine ⟨hb, by simp [rHearC, hsz], ?_, fun d hd => ?_, fun d hd => ?_⟩
    · simp only [rHearC]
      rw [Array.getElem?_setIfInBounds_ne (by omega), Array.getElem?_setIfInBounds_ne (by omega)]
      exact h.sp_
    · simp only [rHearC]
      by_cases e : d = c
      · subst e
        rw [Array.getElem?_setIfInBounds_self_of_lt (by simp; omega)]
        simp [hearH]
      · rw [Array.getElem?_setIfInBounds_ne (by omega), Array.getElem?_setIfInBounds_ne (by omega), h.is_ d hd]
        simp [hearH, e]
    · simp only [rHearC]
      rw [Array.getElem?_setIfInBounds_ne (by omega)]
      by_cases e : d = c
      · subst e
        refine ⟨now, by rw [Array.getElem?_setIfInBounds_self_of_lt (by omega)], fun t ht => ?_⟩
        simp only [hearH, if_true, Option.some.injEq] at ht
        omega
      · rw [Array.getElem?_setIfInBounds_ne (by omega)]
        obtain ⟨a, h1, h2⟩ := h.at_ d hd
        exact ⟨a, h1, fun t ht => h2 t (by simpa [hearH, e] using ht)⟩
  · have hmx : max ((H c).getD 0) now = t := by rw [ht]; simp; omega
    refine ⟨hb, by simp [rHearC, hsz], ?_, fun d hd => ?_, fun d hd => ?_⟩
    · simp only [rHearC]
      rw [Array.getElem?_setIfInBounds_ne (by omega)]
      exact h.sp_
    · simp only [rHearC]
      by_cases e : d = c
      · subst e
        rw [Array.getElem?_setIfInBounds_self_of_lt (by omega)]
        simp [hearH]
      · rw [Array.getElem?_setIfInBounds_ne (by omega), h.is_ d hd]
        simp [hearH, e]
    · simp only [rHearC]
      rw [Array.getElem?_setIfInBounds_ne (by omega)]
      obtain ⟨a, h1, h2⟩ := h.at_ d hd
      refine ⟨a, h1, fun t' ht' => ?_⟩
      by_cases e : d = c
      · subst e
        simp only [hearH, if_true, Option.some.injEq] at ht'
        rw [h2 t ht, ← ht', hmx]
      · exact h2 t' (by simpa [hearH, e] using ht')

theorem RWatchAt.forget {w : World} {b sp : Nat} {C : Array Value} {H : Heard} (h : RWatchAt w b sp C H) {c : Nat} (hc : c < 8) : RWatchAt (w.setCell ⟨b, 1 + c, none⟩ (.bool false)) b sp (C.setIfInBounds (1 + c) (.bool false)) (forgetH H c) := by
  have hsz := h.size
  refine ⟨heap_setCell_at h.blk, by simp [hsz], ?_, fun d hd => ?_, fun d hd => ?_⟩
  · rw [Array.getElem?_setIfInBounds_ne (by omega)]
    exact h.sp_
  · by_cases e : d = c
    · subst e
      rw [Array.getElem?_setIfInBounds_self_of_lt (by omega)]
      simp [forgetH]
    · rw [Array.getElem?_setIfInBounds_ne (by omega), h.is_ d hd]
      have : ¬ ((d : Int) = (c : Int)) := by omega
      simp [forgetH, this]
  · rw [Array.getElem?_setIfInBounds_ne (by omega)]
    obtain ⟨a, h1, h2⟩ := h.at_ d hd
    refine ⟨a, h1, fun t ht => h2 t ?_⟩
    unfold forgetH at ht
    split at ht
    · cases ht
    · exact ht
theorem forgetH_out {H : Heard} {c : Int} (h : ¬ (0 ≤ c ∧ c < 8)) : ∀ d, d < 8 → forgetH H c d = H d := by
  intro d hd
  unfold forgetH
  rw [if_neg (by omega)]
theorem RWatchAt.cong {w : World} {b sp : Nat} {C : Array Value} {H H' : Heard} (h : RWatchAt w b sp C H) (he : ∀ d, d < 8 → H' d = H d) : RWatchAt w b sp C H' :=
  ⟨h.blk, h.size, h.sp_, fun c hc => by rw [he c hc]; exact h.is_ c hc, fun c hc => by rw [he c hc]; exact h.at_ c hc⟩

set_option maxHeartbeats 1000000 in
theorem rHear_ok (w : World) (b sp : Nat) (C : Array Value) (H : Heard) (h : RWatchAt w b sp C H) (c now : Nat) (hc : c < 8) (hn : now ≤ 1099511627775) : Calls Try.prog 18 #[.pointer (some ⟨b, 0, none⟩), .int .i64 c, .int .u64 now] w
    fun e w' => e = .returned (.int .i64 0) ∧ (∃ C', RWatchAt w' b sp C' (hearH H c now)) ∧ Mod (fun x => x = b) w w' := by
  have hL0 := h
  have hc' : (c : Int) < 8 := by omega
  have hn' : (now : Int) ≤ 1099511627775 := by omega
  have cis : w.cell? ⟨b, 1 + c, none⟩ = some (.bool (H c).isSome) := cell_of h.blk (h.is_ c hc)
  obtain ⟨a, ha, hat⟩ := h.at_ c hc
  have cat_ : w.cell? ⟨b, 9 + c, none⟩ = some (.int .u64 a) := cell_of h.blk ha
  have f1 : w.frozen? ⟨b, 1 + c, none⟩ = false := free_of h.blk
  have f2 : w.frozen? ⟨b, 9 + c, none⟩ = false := free_of h.blk
  clear ha
  cases hH : H c with
  | none =>
    rw [hH] at cis hat
    have HE := Lib.hid (fun w' hb => hL0.heard (w' := w') hc (now := now) (x := some now) (.inl ⟨rfl, by rw [hH]; simp⟩) hb)
    clear hH h hat
    go_enter Try.func18, Try.ntmps18
    go_wp2
    go_ret
    exact ⟨rfl, ⟨_, HE.out _ (heap_setCell_at (heap_setCell_at hL0.blk))⟩, ((Mod.refl (fun x => x = b) w).setCell _ _ (fun _ => rfl)).setCell _ _ (fun _ => rfl)⟩
  | some t =>
    obtain rfl : a = t := hat t hH
    rw [hH] at cis
    by_cases hlt : a < now
    · have HE := Lib.hid (fun w' hb => hL0.heard (w' := w') hc (now := now) (x := some now) (.inl ⟨rfl, by rw [hH]; simp; omega⟩) hb)
      have hlt' : (a : Int) < (now : Int) := by omega
      clear hH h hat
      go_enter Try.func18, Try.ntmps18
      go_wp2
      go_ret
      exact ⟨rfl, ⟨_, HE.out _ (heap_setCell_at (heap_setCell_at hL0.blk))⟩, ((Mod.refl (fun x => x = b) w).setCell _ _ (fun _ => rfl)).setCell _ _ (fun _ => rfl)⟩
    · have HE := Lib.hid (fun w' hb => hL0.heard (w' := w') hc (now := now) (x := none) (.inr ⟨rfl, a, hH, by omega⟩) hb)
      have hlt' : (now : Int) ≤ (a : Int) := by omega
      clear hH h hat
      go_enter Try.func18, Try.ntmps18
      go_wp2
      go_ret
      exact ⟨rfl, ⟨_, HE.out _ (heap_setCell_at hL0.blk)⟩, (Mod.refl (fun x => x = b) w).setCell _ _ (fun _ => rfl)⟩
theorem rHear_no (w : World) (v : Value) (c : Int) (now : Nat) (hc : ¬ (0 ≤ c ∧ c < 8 ∧ now ≤ 1099511627775)) : Calls Try.prog 18 #[v, .int .i64 c, .int .u64 now] w
    fun e w' => e = .returned (.int .i64 2) ∧ w' = w := by
  by_cases h1 : c < 0
  · go_enter Try.func18, Try.ntmps18
    go_wp2
    go_ret
    exact ⟨rfl, rfl⟩
  · have h1' : 0 ≤ c := by omega
    by_cases h2 : c ≤ 7
    · have h3 : (1099511627775 : Int) < (now : Int) := by omega
      go_enter Try.func18, Try.ntmps18
      go_wp2
      go_ret
      exact ⟨rfl, rfl⟩
    · have h2' : 7 < c := by omega
      go_enter Try.func18, Try.ntmps18
      go_wp2
      go_ret
      exact ⟨rfl, rfl⟩

/-- Who of the first k is late. -/
def lateK (H : Heard) (sp now k : Nat) : List Nat := ((List.range k).filter fun c => (H c).isSome).filter fun c => isLate H sp now c
theorem lateK_succ (H : Heard) (sp now k : Nat) : lateK H sp now (k + 1) = lateK H sp now k ++ (if isLate H sp now k then [k] else []) := by
  unfold lateK
  rw [List.range_succ, List.filter_append, List.filter_append]
  congr 1
  cases hH : H k with
  | none => simp [List.filter, hH, isLate]
  | some t =>
    simp only [List.filter, hH, Option.isSome_some]
    split <;> simp_all
theorem lateK_len (H : Heard) (sp now k : Nat) : (lateK H sp now k).length ≤ k := by
  have h1 := List.length_filter_le (fun c => isLate H sp now c) ((List.range k).filter fun c => (H c).isSome)
  have h2 := List.length_filter_le (fun c => (H c).isSome) (List.range k)
  rw [List.length_range] at h2
  unfold lateK
  omega

set_option maxHeartbeats 4000000 in
set_option maxRecDepth 20000 in
theorem rLate_ok (w : World) (b sp : Nat) (C : Array Value) (H : Heard) (h : RWatchAt w b sp C H) (hsp : sp ≤ 16384) (now : Nat) (hnow : now < 18446744073709551616) : Calls Try.prog 20 #[.pointer (some ⟨b, 0, none⟩), .int .u64 now] w
    fun e w' => (∃ v, e = .returned v ∧ IntSl w' v (ints (lateH H sp now))) ∧ Below w.heap.size w w' := by
  have hbl := lt_of_block h.blk
  go_enter Try.func20, Try.ntmps20
  go_wp2
  go_loopw [5, 6] (fun ov kv wr => ∃ k : Nat, k ≤ 8 ∧ kv = .int .i64 k ∧ IntOuts w.heap.size wr ov (ints (lateK H sp now k)) ∧ Below w.heap.size w wr) (fun _ kv _ => 8 - (intOf kv).toNat)
  case atStart => exact ⟨0, Nat.zero_le _, rfl, IntOuts.nil (Nat.le_refl _), Below.refl _ _⟩
  case round =>
    obtain ⟨k, hk, rfl, hO, hbr⟩ := hrel
    by_cases hlt : k < 8
    · have hlt' : (k : Int) < 8 := by omega
      have hWr : RWatchAt wr b sp C H := h.mod (Mod.of_below hbr) (by omega)
      have cis : wr.cell? ⟨b, 1 + k, none⟩ = some (.bool (H k).isSome) := cell_of hWr.blk (hWr.is_ k hlt)
      obtain ⟨a, ha, hat⟩ := hWr.at_ k hlt
      have cat_ : wr.cell? ⟨b, 9 + k, none⟩ = some (.int .u64 a) := cell_of hWr.blk ha
      have csp : wr.cell? ⟨b, 0, none⟩ = some (.int .u64 sp) := cell_of hWr.blk hWr.sp_
      have hsucc := lateK_succ H sp now k
      clear ha hWr
      have hol : (ints (lateK H sp now k)).length ≤ 1000 := by
        have := lateK_len H sp now k
        simp only [ints, List.length_map]
        omega
      cases hH : H k with
      | none =>
        rw [hH] at cis hat
        have hil2 : isLate H sp now k = false := by simp [isLate, hH]
        rw [hil2, if_neg (by decide), List.append_nil] at hsucc
        have HT := Lib.hid hsucc
        clear hH hil2 hsucc hat
        go_wp2
        go_quiet (fail)
        go_wp2
        go_roundw
        case rel => exact ⟨k + 1, by omega, by go_num, by rw [HT.out]; exact hO.below (below_drewN (Below.refl _ _) _), below_drewN hbr _⟩
        case measure => simp [intOf]; omega
      | some t =>
        obtain rfl : a = t := hat t hH
        rw [hH] at cis
        have hil : isLate H sp now k = (decide (a < now) && decide (sp < now - a)) := by simp [isLate, hH]
        clear hH hat
        by_cases h1 : a < now
        · have h1' : (a : Int) < (now : Int) := by omega
          by_cases h2 : sp < now - a
          · have h2' : (sp : Int) < (now : Int) - (a : Int) := by omega
            have hil2 : isLate H sp now k = true := by rw [hil]; simp [h1, h2]
            rw [hil2, if_pos rfl] at hsucc
            have HT := Lib.hid hsucc
            clear hil hil2 hsucc h1 h2
            go_wp2
            go_quiet (fail)
            have hO2 := hO.below (below_drewN (Below.refl _ wr) nq)
            have hbr2 := below_drewN hbr nq
            clear hO hbr cis cat_ csp
            generalize wr.drewN nq = wq at *
            go_wp2_with (first
              | ((with_reducible refine wpList_appendI hO2 (k : Int) hol ?_ ?_ ?_); rfl; rfl; (intro v2 w3 hO3 hb3); go_frame)
              | fail)
            refine ⟨⟨k + 1, by omega, by go_num, ?_, hbr2.trans hb3⟩, by simp [intOf]; omega⟩
            rw [HT.out]
            unfold ints
            rw [List.map_append]
            exact hO3
          · have h2' : (now : Int) - (a : Int) ≤ (sp : Int) := by omega
            have hil2 : isLate H sp now k = false := by rw [hil]; simp [h2]
            rw [hil2, if_neg (by decide), List.append_nil] at hsucc
            have HT := Lib.hid hsucc
            clear hil hil2 hsucc h1 h2
            go_wp2
            go_quiet (fail)
            go_wp2
            go_roundw
            case rel => exact ⟨k + 1, by omega, by go_num, by rw [HT.out]; exact hO.below (below_drewN (Below.refl _ _) _), below_drewN hbr _⟩
            case measure => simp [intOf]; omega
        · have h1' : (now : Int) ≤ (a : Int) := by omega
          have hil2 : isLate H sp now k = false := by rw [hil]; simp [h1]
          rw [hil2, if_neg (by decide), List.append_nil] at hsucc
          have HT := Lib.hid hsucc
          have hdec : decide (a < now) = false := decide_eq_false h1
          clear hil hil2 hsucc h1
          go_wp2
          go_quiet (fail)
          go_wp2
          go_roundw
          case rel => exact ⟨k + 1, by omega, by go_num, by rw [HT.out]; exact hO.below (below_drewN (Below.refl _ _) _), below_drewN hbr _⟩
          case measure => simp [intOf]; omega
    · obtain rfl : k = 8 := by omega
      have hsl2 := Own1.intSl hO.own
      go_wp2
      go_ret
      exact ⟨⟨_, rfl, hsl2⟩, hbr⟩
end Go.Proofs.Ytnlcnhanhompnaa
