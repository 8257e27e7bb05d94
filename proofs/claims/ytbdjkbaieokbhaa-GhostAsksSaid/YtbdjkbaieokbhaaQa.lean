/- Whether a loss is to be told: both walks. -/
import Derived.Test.YtbdjkbaieokbhaaWl
import Derived.Test.YtbdjkbaieokbhaaAsks
namespace Go.Proofs.Ytbdjkbaieokbhaa
open Go.RowKit Go.Tn Go.Tn.Ghost

/-- The cells of an event in a box of its own. -/
theorem box_ev {w : World} {b : Nat} {e : Evt} (h : Lies w b 0 (evArr e)) :
    w.cell? ⟨b, 0, none⟩ = some (.int .i64 e.k) ∧ w.cell? ⟨b, 1, none⟩ = some (.int .i64 e.c) ∧ w.cell? ⟨b, 3, none⟩ = some (.int .i64 e.i) ∧ w.cell? ⟨b, 4, none⟩ = some (.int .i64 e.g) ∧ w.cell? ⟨b, 11, none⟩ = some (.int .i64 e.re) := by
  have g : ∀ j (hj : j < 17), w.cell? ⟨b, j, none⟩ = some ((evArr e)[j]'(by rw [evArr_size]; exact hj)) := fun j hj => by
    have := h j (by rw [evArr_size]; exact hj)
    rwa [Nat.zero_add] at this
  exact ⟨g 0 (by decide), g 1 (by decide), g 3 (by decide), g 4 (by decide), g 11 (by decide)⟩

set_option maxHeartbeats 4000000 in
theorem told_any (w : World) (v : Value) (n : Nat) (E : Nat → Evt) (hE : EvSl w v n E) (hn : n ≤ 60) (c fi fg : Int) :
    Calls Try.prog 12 #[v, .int .i64 c, .agg #[.int .i64 fi, .int .i64 fg]] w fun e w' => e = .returned (.bool (told c fi fg E n)) ∧ Below w.heap.size w w' := by
  obtain ⟨ao, cap, rfl, hE⟩ := hE
  have hW : Below w.heap.size w (w.alloc (.cells #[.int .i64 fi, .int .i64 fg] 31)) := (Below.refl _ _).alloc (Nat.le_refl _) _
  have z0 : (w.alloc (.cells #[.int .i64 fi, .int .i64 fg] 31)).cell? ⟨w.heap.size, 0, none⟩ = some (.int .i64 fi) := cell_of heap_alloc_at rfl
  have z1 : (w.alloc (.cells #[.int .i64 fi, .int .i64 fg] 31)).cell? ⟨w.heap.size, 1, none⟩ = some (.int .i64 fg) := cell_of heap_alloc_at rfl
  have Z0 := Lib.hid z0
  have Z1 := Lib.hid z1
  clear z0 z1
  go_enter Try.func12, Try.ntmps12
  go_wp2
  go_loopw [7, 13] (fun bv kv wr => ∃ k : Nat, k ≤ n ∧ kv = .int .i64 k ∧ bv = .bool (told c fi fg E k) ∧ Below (w.alloc (.cells #[.int .i64 fi, .int .i64 fg] 31)).heap.size (w.alloc (.cells #[.int .i64 fi, .int .i64 fg] 31)) wr) (fun _ kv _ => n - (intOf kv).toNat)
  case atStart => exact ⟨0, Nat.zero_le _, rfl, rfl, Below.refl _ _⟩
  case round =>
    obtain ⟨k, hk, rfl, rfl, hbr⟩ := hrel
    by_cases hlt : k < n
    · have hlt' : (k : Int) < (n : Int) := by omega
      obtain ⟨b, off, rfl, hb, hin⟩ := hE (by omega)
      have hbw : Below w.heap.size w wr := hW.trans (hbr.mono (by simp))
      have hl1 := (hin.below hbw hb) k hlt
      have hsz : w.heap.size < wr.heap.size := by have := hbr.size; simp at this; omega
      have q0 : wr.cell? ⟨w.heap.size, 0, none⟩ = some (.int .i64 fi) := by rw [hbr.cell (p := ⟨w.heap.size, 0, none⟩) (by simp)]; exact Z0.out
      have q1 : wr.cell? ⟨w.heap.size, 1, none⟩ = some (.int .i64 fg) := by rw [hbr.cell (p := ⟨w.heap.size, 1, none⟩) (by simp)]; exact Z1.out
      have hT : told c fi fg E (k + 1) = tstep c fi fg (E k) (told c fi fg E k) := rfl
      have htc := tcases c fi fg (E k) (told c fi fg E k)
      clear hE hin
      go_upto_region 5 with (first
        | ((with_reducible refine wpList_loadA (agg39 (E k)) hl1 ?_ ?_); rfl; go_frame)
        | ((with_reducible refine wpList_storeA_new (agg39 (E k)) ?_ (evArr_one _) ?_ ?_ ?_); rfl; rfl; rfl; go_frame)
        | fail)
      obtain ⟨w3, hw3⟩ : ∃ w3, wr.alloc (.cells (evArr (E k)) 39) = w3 := ⟨_, rfl⟩
      have hb3 : Below (w.alloc (.cells #[.int .i64 fi, .int .i64 fg] 31)).heap.size (w.alloc (.cells #[.int .i64 fi, .int .i64 fg] 31)) w3 := by rw [← hw3]; exact hbr.alloc hbr.size _
      have hbx : Lies w3 wr.heap.size 0 (evArr (E k)) := by rw [← hw3]; exact lies_of heap_alloc_at
      have r0 : w3.cell? ⟨w.heap.size, 0, none⟩ = some (.int .i64 fi) := by rw [← hw3]; exact (World.cell?_alloc_lt _ _ _ (by show w.heap.size < wr.heap.size; omega)).trans q0
      have r1 : w3.cell? ⟨w.heap.size, 1, none⟩ = some (.int .i64 fg) := by rw [← hw3]; exact (World.cell?_alloc_lt _ _ _ (by show w.heap.size < wr.heap.size; omega)).trans q1
      obtain ⟨p0, p1, p3, p4, p11⟩ := box_ev hbx
      rw [hw3]
      clear hw3 hbx hl1 q0 q1 hbr hbw
      have HT := Lib.hid hT
      clear hT
      generalize hek : E k = ek at *
      generalize htk : told c fi fg E k = tk at *
      generalize wr.heap.size = bx at *
      clear hek htk
      rcases htc with ⟨t1, ht⟩ | ⟨t1, t2, t3, ⟨t4, t5, t6, ht⟩ | ⟨t4, t5, ht⟩ | ⟨t4, t5, t6, t7, ht⟩ | ⟨t4, t5, t6, t7, ht⟩ | ⟨t4, t5, t6, ht⟩⟩ | ⟨t1, t2 | ⟨t2, t3⟩, ⟨t4, t5, t6, ht⟩ | ⟨t4, t5, ht⟩ | ⟨t4, t5, t6, ht⟩ | ⟨t4, t5, t6, ht⟩⟩
      all_goals
        have HR := Lib.hid ht
        clear ht
        go_wp2
        go_roundw
        case rel => exact ⟨k + 1, by omega, by go_num, by rw [HT.out, HR.out], hb3⟩
        case measure => simp [intOf]; omega
    · obtain rfl : k = n := by omega
      go_wp2
      go_ret
      exact ⟨rfl, hW.trans (hbr.mono (by simp))⟩

set_option maxHeartbeats 4000000 in
theorem rTold_any (w : World) (v : Value) (n : Nat) (E : Nat → Evt) (hE : EvSl w v n E) (hn : n ≤ 60) (c fi fg : Int) :
    Calls Try.prog 13 #[v, .int .i64 c, .agg #[.int .i64 fi, .int .i64 fg]] w fun e w' => e = .returned (.bool (told c fi fg E n)) ∧ Below w.heap.size w w' := by
  obtain ⟨ao, cap, rfl, hE⟩ := hE
  have hW : Below w.heap.size w (w.alloc (.cells #[.int .i64 fi, .int .i64 fg] 31)) := (Below.refl _ _).alloc (Nat.le_refl _) _
  have z0 : (w.alloc (.cells #[.int .i64 fi, .int .i64 fg] 31)).cell? ⟨w.heap.size, 0, none⟩ = some (.int .i64 fi) := cell_of heap_alloc_at rfl
  have z1 : (w.alloc (.cells #[.int .i64 fi, .int .i64 fg] 31)).cell? ⟨w.heap.size, 1, none⟩ = some (.int .i64 fg) := cell_of heap_alloc_at rfl
  have Z0 := Lib.hid z0
  have Z1 := Lib.hid z1
  clear z0 z1
  go_enter Try.func13, Try.ntmps13
  go_wp2
  go_loopw [7] (fun kv wr => ∃ k : Nat, k ≤ n ∧ kv = .int .i64 k ∧ told c fi fg E n = told c fi fg E k ∧ Below (w.alloc (.cells #[.int .i64 fi, .int .i64 fg] 31)).heap.size (w.alloc (.cells #[.int .i64 fi, .int .i64 fg] 31)) wr) (fun kv _ => (intOf kv).toNat)
  case atStart => exact ⟨n, Nat.le_refl _, rfl, rfl, Below.refl _ _⟩
  case round =>
    obtain ⟨j, hj, rfl, hto, hbr⟩ := hrel
    have HTO := Lib.hid hto
    clear hto
    by_cases hlt : 0 < j
    · obtain ⟨k, rfl⟩ : ∃ k, j = k + 1 := ⟨j - 1, by omega⟩
      have hlt' : (k : Int) + 1 ≤ (n : Int) := by omega
      have hk1 : (0 : Int) ≤ (k : Int) := by omega
      have hcast : ((k + 1 : Nat) : Int) - 1 = (k : Int) := by omega
      obtain ⟨b, off, rfl, hb, hin⟩ := hE (by omega)
      have hbw : Below w.heap.size w wr := hW.trans (hbr.mono (by simp))
      have hl1 := (hin.below hbw hb) k (by omega)
      have hsz : w.heap.size < wr.heap.size := by have := hbr.size; simp at this; omega
      have q0 : wr.cell? ⟨w.heap.size, 0, none⟩ = some (.int .i64 fi) := by rw [hbr.cell (p := ⟨w.heap.size, 0, none⟩) (by simp)]; exact Z0.out
      have q1 : wr.cell? ⟨w.heap.size, 1, none⟩ = some (.int .i64 fg) := by rw [hbr.cell (p := ⟨w.heap.size, 1, none⟩) (by simp)]; exact Z1.out
      have hT : told c fi fg E (k + 1) = tstep c fi fg (E k) (told c fi fg E k) := rfl
      have htc := tcases c fi fg (E k) (told c fi fg E k)
      have HT := Lib.hid hT
      have HC := Lib.hid hcast
      clear hE hin hT hcast
      go_upto_region 5 with (first
        | ((with_reducible refine wpList_loadA (agg39 (E k)) hl1 ?_ ?_); rfl; go_frame)
        | ((with_reducible refine wpList_storeA_new (agg39 (E k)) ?_ (evArr_one _) ?_ ?_ ?_); rfl; rfl; rfl; go_frame)
        | fail)
      obtain ⟨w3, hw3⟩ : ∃ w3, wr.alloc (.cells (evArr (E k)) 39) = w3 := ⟨_, rfl⟩
      have hb3 : Below (w.alloc (.cells #[.int .i64 fi, .int .i64 fg] 31)).heap.size (w.alloc (.cells #[.int .i64 fi, .int .i64 fg] 31)) w3 := by rw [← hw3]; exact hbr.alloc hbr.size _
      have hbx : Lies w3 wr.heap.size 0 (evArr (E k)) := by rw [← hw3]; exact lies_of heap_alloc_at
      have r0 : w3.cell? ⟨w.heap.size, 0, none⟩ = some (.int .i64 fi) := by rw [← hw3]; exact (World.cell?_alloc_lt _ _ _ (by show w.heap.size < wr.heap.size; omega)).trans q0
      have r1 : w3.cell? ⟨w.heap.size, 1, none⟩ = some (.int .i64 fg) := by rw [← hw3]; exact (World.cell?_alloc_lt _ _ _ (by show w.heap.size < wr.heap.size; omega)).trans q1
      obtain ⟨p0, p1, p3, p4, p11⟩ := box_ev hbx
      rw [hw3]
      clear hw3 hbx hl1 q0 q1 hbr hbw
      generalize hek : E k = ek at *
      generalize htk : told c fi fg E k = tk at *
      generalize wr.heap.size = bx at *
      have HK := Lib.hid htk
      clear hek htk
      rcases htc with ⟨t1, ht⟩ | ⟨t1, t2, t3, ⟨t4, t5, t6, ht⟩ | ⟨t4, t5, ht⟩ | ⟨t4, t5, t6, t7, ht⟩ | ⟨t4, t5, t6, t7, ht⟩ | ⟨t4, t5, t6, ht⟩⟩ | ⟨t1, t2 | ⟨t2, t3⟩, ⟨t4, t5, t6, ht⟩ | ⟨t4, t5, ht⟩ | ⟨t4, t5, t6, ht⟩ | ⟨t4, t5, t6, ht⟩⟩
      all_goals
        have HR := Lib.hid ht
        clear ht
        go_wp2
        first
          | (go_roundw
             case rel => exact ⟨k, by omega, by go_num, by rw [HTO.out, HT.out, HR.out, HK.out], hb3⟩
             case measure => simp [intOf])
          | (go_ret
             exact ⟨by rw [HTO.out, HT.out, HR.out]; rfl, hW.trans (hb3.mono (by simp))⟩)
    · obtain rfl : j = 0 := by omega
      go_wp2
      go_ret
      exact ⟨by rw [HTO.out]; rfl, hW.trans (hbr.mono (by simp))⟩
end Go.Proofs.Ytbdjkbaieokbhaa
