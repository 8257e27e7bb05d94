/- The document's Others, Holders, SameInts, Same, Before walked. -/
import Derived.Test.YtnjiocikpigegaaRa
namespace Go.Proofs.Ytnjiocikpigegaa
open Go.RowKit Go.Tn Go.Tn.Mo Go.Maps Go.Sort Go.Shelf

/-- The document's table says what the program's does. -/
def Alike (M : Fi → Nat) (R : List RowR) : Prop := ∀ f (c : Int), rm R f c = (modeI (M f) c : Nat)

set_option maxHeartbeats 1000000 in
theorem rHolders_any (w : World) (B xb : Nat) (sv : Value) (R : List RowR) (h : RTab w B xb sv R) (M : Fi → Nat) (hA : Alike M R) (i g : Int) : Calls Try.prog 19 #[.pointer (some ⟨xb, 0, none⟩), .agg #[.int .i64 i, .int .i64 g]] w
    fun e w' => (∃ v, e = .returned v ∧ IntOut w.heap.size w' v (ints (holdL (M (i, g)) 8))) ∧ Below w.heap.size w w' := by
  obtain ⟨w1, hw1⟩ : ∃ w1, w.alloc (.cells #[.int .i64 i, .int .i64 g] 24) = w1 := ⟨_, rfl⟩
  have hW : Below w.heap.size w w1 := by rw [← hw1]; exact (Below.refl _ _).alloc (Nat.le_refl _) _
  have hsz1 : w1.heap.size = w.heap.size + 1 := by rw [← hw1]; simp
  have hbox : w1.cell? ⟨w.heap.size, 0, none⟩ = some (.int .i64 i) ∧ w1.cell? ⟨w.heap.size, 1, none⟩ = some (.int .i64 g) := by
    rw [← hw1]; exact ⟨cell_of heap_alloc_at rfl, cell_of heap_alloc_at rfl⟩
  have h1 := h.below hW
  have HB := Lib.hid hbox
  have H1 := Lib.hid hw1
  have HA := Lib.hid hA
  have hs1 := hsz1
  clear h hbox hw1 hsz1 hA
  go_enter Try.func19, Try.ntmps19
  go_wp2
  rw [H1.out]
  go_loopw [5, 6] (fun ov kv wr => ∃ k : Nat, k ≤ 8 ∧ kv = .int .i64 k ∧ IntOut w1.heap.size wr ov (ints (holdL (M (i, g)) k)) ∧ Below w1.heap.size w1 wr) (fun _ kv _ => 8 - (intOf kv).toNat)
  case atStart => exact ⟨0, by omega, rfl, LOut.nil (Nat.le_refl _), Below.refl _ _⟩
  case round =>
    obtain ⟨k, hk, rfl, hO, hbr⟩ := hrel
    by_cases hlt : k < 8
    · have hlt' : (k : Int) < 8 := by omega
      have hr := h1.below hbr
      have q0 : wr.cell? ⟨w.heap.size, 0, none⟩ = some (.int .i64 i) := by rw [hbr.cell (p := ⟨w.heap.size, 0, none⟩) (by show w.heap.size < w1.heap.size; omega)]; exact HB.out.1
      have q1 : wr.cell? ⟨w.heap.size, 1, none⟩ = some (.int .i64 g) := by rw [hbr.cell (p := ⟨w.heap.size, 1, none⟩) (by show w.heap.size < w1.heap.size; omega)]; exact HB.out.2
      have hlen := holdL_len (M (i, g)) k
      have hsucc := holdL_succ (M (i, g)) k
      have hol : (ints (holdL (M (i, g)) k)).length ≤ 1000 := by rw [ints_len]; omega
      have HS := Lib.hid hsucc
      have hmode := rMode_any wr B xb sv R hr i g k
      rw [HA.out, modeI_nat _ hlt] at hmode
      have HM := Lib.hid hmode
      clear hsucc hlen hmode
      go_wp2_with fail
      refine HM.out.mono ?_
      rintro e w3 ⟨rfl, hb3⟩
      have hO3 := hO.below hb3
      have hbr3 : Below w1.heap.size w1 w3 := hbr.trans (hb3.mono hbr.size)
      clear hO hbr hb3 hr q0 q1
      by_cases hz : mo (M (i, g)) k = 0
      · have HZ := Lib.hid hz
        rw [hz]
        clear hz
        go_wp2
        go_roundw
        case rel => exact ⟨k + 1, by omega, by go_num, by rw [HS.out, HZ.out]; simpa using hO3, hbr3⟩
        case measure => simp [intOf]; omega
      · have HZ := Lib.hid hz
        have hz' : (0 : Int) < ((mo (M (i, g)) k : Nat) : Int) := by omega
        generalize ((mo (M (i, g)) k : Nat) : Int) = d at *
        clear hz
        go_wp2_with (first
          | ((with_reducible refine wpList_append1 elI hO3 (k : Int) hol ?_ ?_ ?_ ?_); rfl; rfl; rfl; (intro v2 w4 hO4 hb4); go_frame)
          | fail)
        refine ⟨⟨k + 1, by omega, by go_num, ?_, hbr3.trans hb4⟩, by simp [intOf]; omega⟩
        rw [HS.out, if_pos HZ.out, ints_append]
        exact hO4
    · obtain rfl : k = 8 := by omega
      go_wp2
      go_ret
      exact ⟨⟨_, rfl, hO.mono (by omega)⟩, hW.trans (hbr.mono (by omega))⟩

/-- Who of the first k stands in the way. -/
def otherK (m : Nat) (client mode : Int) (k : Nat) : List Nat := (List.range k).filter fun c => decide (mo m c ≠ 0) && inWay m client mode c
theorem otherK_eight (m : Nat) (client mode : Int) : otherK m client mode 8 = otherL m client mode := by
  unfold otherK otherL holdL
  rw [List.filter_filter]
  exact List.filter_congr fun c _ => Bool.and_comm _ _
theorem otherK_succ (m : Nat) (client mode : Int) (k : Nat) : otherK m client mode (k + 1) = otherK m client mode k ++ if mo m k ≠ 0 ∧ inWay m client mode k = true then [k] else [] := by
  unfold otherK
  rw [List.range_succ, List.filter_append]
  congr 1
  simp only [List.filter]
  by_cases h : mo m k = 0 <;> by_cases h2 : inWay m client mode k = true <;> simp [h, h2]
theorem otherK_len (m : Nat) (client mode : Int) (k : Nat) : (otherK m client mode k).length ≤ k := by
  have := List.length_filter_le (fun c => decide (mo m c ≠ 0) && inWay m client mode c) (List.range k)
  simpa [otherK] using this

set_option maxRecDepth 20000 in
set_option maxHeartbeats 2000000 in
theorem rOthers_any (w : World) (B xb : Nat) (sv : Value) (R : List RowR) (h : RTab w B xb sv R) (M : Fi → Nat) (hA : Alike M R) (i g client mode : Int) : Calls Try.prog 24 #[.pointer (some ⟨xb, 0, none⟩), .agg #[.int .i64 i, .int .i64 g], .int .i64 client, .int .i64 mode] w
    fun e w' => (∃ v, e = .returned v ∧ IntOut w.heap.size w' v (ints (otherL (M (i, g)) client mode))) ∧ Below w.heap.size w w' := by
  rw [← otherK_eight]
  obtain ⟨w1, hw1⟩ : ∃ w1, w.alloc (.cells #[.int .i64 i, .int .i64 g] 24) = w1 := ⟨_, rfl⟩
  have hW : Below w.heap.size w w1 := by rw [← hw1]; exact (Below.refl _ _).alloc (Nat.le_refl _) _
  have hsz1 : w1.heap.size = w.heap.size + 1 := by rw [← hw1]; simp
  have hbox : w1.cell? ⟨w.heap.size, 0, none⟩ = some (.int .i64 i) ∧ w1.cell? ⟨w.heap.size, 1, none⟩ = some (.int .i64 g) := by
    rw [← hw1]; exact ⟨cell_of heap_alloc_at rfl, cell_of heap_alloc_at rfl⟩
  have h1 := h.below hW
  have HB := Lib.hid hbox
  have H1 := Lib.hid hw1
  have HA := Lib.hid hA
  have hs1 := hsz1
  clear h hbox hw1 hsz1 hA
  go_enter Try.func24, Try.ntmps24
  go_wp2
  rw [H1.out]
  go_loopw [9, 10] (fun ov kv wr => ∃ k : Nat, k ≤ 8 ∧ kv = .int .i64 k ∧ IntOut w1.heap.size wr ov (ints (otherK (M (i, g)) client mode k)) ∧ Below w1.heap.size w1 wr) (fun _ kv _ => 8 - (intOf kv).toNat)
  case atStart => exact ⟨0, by omega, rfl, LOut.nil (Nat.le_refl _), Below.refl _ _⟩
  case round =>
    obtain ⟨k, hk, rfl, hO, hbr⟩ := hrel
    by_cases hlt : k < 8
    · have hlt' : (k : Int) < 8 := by omega
      have hr := h1.below hbr
      have q0 : wr.cell? ⟨w.heap.size, 0, none⟩ = some (.int .i64 i) := by rw [hbr.cell (p := ⟨w.heap.size, 0, none⟩) (by show w.heap.size < w1.heap.size; omega)]; exact HB.out.1
      have q1 : wr.cell? ⟨w.heap.size, 1, none⟩ = some (.int .i64 g) := by rw [hbr.cell (p := ⟨w.heap.size, 1, none⟩) (by show w.heap.size < w1.heap.size; omega)]; exact HB.out.2
      have hlen := otherK_len (M (i, g)) client mode k
      have hsucc := otherK_succ (M (i, g)) client mode k
      have hol : (ints (otherK (M (i, g)) client mode k)).length ≤ 1000 := by rw [ints_len]; omega
      have hiw : inWay (M (i, g)) client mode k = (decide ((k : Int) ≠ client) && (decide (mode = 2) || decide (mo (M (i, g)) k = 2))) := rfl
      have HS := Lib.hid hsucc
      have HI := Lib.hid hiw
      have hmode := rMode_any wr B xb sv R hr i g k
      rw [HA.out, modeI_nat _ hlt] at hmode
      have HM := Lib.hid hmode
      clear hsucc hlen hmode hiw
      go_wp2_with fail
      refine HM.out.mono ?_
      rintro e w3 ⟨rfl, hb3⟩
      have hO3 := hO.below hb3
      have hbr3 : Below w1.heap.size w1 w3 := hbr.trans (hb3.mono hbr.size)
      clear hO hbr hb3 hr q0 q1
      have hout : ¬ (mo (M (i, g)) k ≠ 0 ∧ inWay (M (i, g)) client mode k = true) → IntOut w1.heap.size w3 u9 (ints (otherK (M (i, g)) client mode (k + 1))) := fun hn => by
        rw [HS.out, if_neg hn]
        simpa using hO3
      have HO := Lib.hid hout
      clear hout
      by_cases h1c : (k : Int) = client
      · have t1' : ((k : Int) != client) = false := by simpa using h1c
        have hsk := HO.out (fun hn => by have := hn.2; rw [HI.out] at this; simp [h1c] at this)
        have HK := Lib.hid hsk
        clear h1c hsk
        go_wp2
        go_roundw
        case rel => exact ⟨k + 1, by omega, by go_num, HK.out, hbr3⟩
        case measure => simp [intOf]; omega
      · have t1' : ((k : Int) != client) = true := by simpa using h1c
        by_cases hz : mo (M (i, g)) k = 0
        · have hsk := HO.out (fun hn => hn.1 hz)
          have HK := Lib.hid hsk
          rw [hz]
          clear h1c hsk hz
          go_wp2
          go_roundw
          case rel => exact ⟨k + 1, by omega, by go_num, HK.out, hbr3⟩
          case measure => simp [intOf]; omega
        · have hz' : (0 : Int) < ((mo (M (i, g)) k : Nat) : Int) := by omega
          by_cases h2c : mode = 2
          · subst h2c
            have hin : mo (M (i, g)) k ≠ 0 ∧ inWay (M (i, g)) client 2 k = true := ⟨hz, by rw [HI.out]; simp [h1c]⟩
            have HN := Lib.hid hin
            generalize ((mo (M (i, g)) k : Nat) : Int) = d at *
            clear h1c hin hz
            go_wp2_with (first
              | ((with_reducible refine wpList_append1 elI hO3 (k : Int) hol ?_ ?_ ?_ ?_); rfl; rfl; rfl; (intro v2 w4 hO4 hb4); go_frame)
              | fail)
            refine ⟨⟨k + 1, by omega, by go_num, ?_, hbr3.trans hb4⟩, by simp [intOf]; omega⟩
            rw [HS.out, if_pos HN.out, ints_append]
            exact hO4
          · have t2 : (mode == 2) = false := by simpa using h2c
            by_cases h3c : mo (M (i, g)) k = 2
            · have hin : mo (M (i, g)) k ≠ 0 ∧ inWay (M (i, g)) client mode k = true := ⟨hz, by rw [HI.out]; simp [h1c, h3c]⟩
              have HN := Lib.hid hin
              rw [h3c]
              clear h1c h2c h3c hin hz hz'
              go_wp2_with (first
                | ((with_reducible refine wpList_append1 elI hO3 (k : Int) hol ?_ ?_ ?_ ?_); rfl; rfl; rfl; (intro v2 w4 hO4 hb4); go_frame)
                | fail)
              refine ⟨⟨k + 1, by omega, by go_num, ?_, hbr3.trans hb4⟩, by simp [intOf]; omega⟩
              rw [HS.out, if_pos HN.out, ints_append]
              exact hO4
            · have hsk := HO.out (fun hn => by have := hn.2; rw [HI.out] at this; simp [h2c, h3c] at this)
              have HK := Lib.hid hsk
              have t3 : (((mo (M (i, g)) k : Nat) : Int) == 2) = false := by simpa using (show ¬ ((mo (M (i, g)) k : Nat) : Int) = 2 by omega)
              generalize ((mo (M (i, g)) k : Nat) : Int) = d at *
              clear h1c h2c h3c hsk hz
              go_wp2
              go_roundw
              case rel => exact ⟨k + 1, by omega, by go_num, HK.out, hbr3⟩
              case measure => simp [intOf]; omega
    · obtain rfl : k = 8 := by omega
      go_wp2
      go_ret
      exact ⟨⟨_, rfl, hO.mono (by omega)⟩, hW.trans (hbr.mono (by omega))⟩
end Go.Proofs.Ytnjiocikpigegaa
