/- Holders, Others walked. -/
import Derived.Test.YtnjiocikpigegaaWb
import Derived.Test.YtnjiocikpigegaaLst
namespace Go.Proofs.Ytnjiocikpigegaa
open Go.RowKit Go.Tn Go.Tn.Mo

/-- Numbers, one cell each. -/
abbrev enI : Int → List Value := fun x => [.int .i64 x]
theorem elI : ElT Try.prog 32 3 1 enI := ⟨Try.underlying32, by kernel_rfl, by decide, fun _ => rfl, fun x u hu => by simp [enI] at hu; subst hu; rfl⟩
abbrev IntSl (w : World) (v : Value) (xs : List Int) : Prop := LSl enI 1 w v xs
abbrev IntOut (B : Nat) (w : World) (v : Value) (xs : List Int) : Prop := LOut enI 1 3 B w v xs
theorem intCell {w : World} {b o i : Nat} {x : Int} (h : Lies w b (o + i * 1) (enI x).toArray) : w.cell? ⟨b, o + i, none⟩ = some (.int .i64 x) := by
  have := h 0 (by simp [enI])
  rw [Nat.mul_one] at this
  exact this
def ints (l : List Nat) : List Int := l.map fun c : Nat => (c : Int)

/-- Who has a file, below k. -/
def holdL (m k : Nat) : List Nat := (List.range k).filter fun c => decide (mo m c ≠ 0)
theorem holdL_succ (m k : Nat) : holdL m (k + 1) = holdL m k ++ if mo m k ≠ 0 then [k] else [] := by
  unfold holdL
  rw [List.range_succ, List.filter_append]
  congr 1
  simp only [List.filter]
  by_cases h : mo m k = 0 <;> simp [h]
theorem holdL_len (m k : Nat) : (holdL m k).length ≤ k := by
  have := List.length_filter_le (fun c => decide (mo m c ≠ 0)) (List.range k)
  simpa [holdL] using this
theorem ints_append (a b : List Nat) : ints (a ++ b) = ints a ++ ints b := List.map_append
theorem ints_len (a : List Nat) : (ints a).length = a.length := List.length_map _

set_option maxHeartbeats 1000000 in
theorem holders_any (w : World) (pv : Value) (M : Fi → Nat) (h : TabV w pv M) (i g : Int) : Calls Try.prog 25 #[pv, .agg #[.int .i64 i, .int .i64 g]] w
    fun e w' => (∃ v, e = .returned v ∧ IntOut w.heap.size w' v (ints (holdL (M (i, g)) 8))) ∧ Below w.heap.size w w' := by
  obtain ⟨w1, hw1⟩ : ∃ w1, w.alloc (.cells #[.int .i64 i, .int .i64 g] 24) = w1 := ⟨_, rfl⟩
  have hW : Below w.heap.size w w1 := by rw [← hw1]; exact (Below.refl _ _).alloc (Nat.le_refl _) _
  have hsz1 : w1.heap.size = w.heap.size + 1 := by rw [← hw1]; simp
  have hbox : w1.cell? ⟨w.heap.size, 0, none⟩ = some (.int .i64 i) ∧ w1.cell? ⟨w.heap.size, 1, none⟩ = some (.int .i64 g) := by
    rw [← hw1]; exact ⟨cell_of heap_alloc_at rfl, cell_of heap_alloc_at rfl⟩
  have h1 := h.below hW
  have HB := Lib.hid hbox
  have H1 := Lib.hid hw1
  have hs1 := hsz1
  clear h hbox hw1 hsz1
  go_enter Try.func25, Try.ntmps25
  go_wp2
  rw [H1.out]
  go_loopw [5, 7] (fun ov kv wr => ∃ k : Nat, k ≤ 8 ∧ kv = .int .i64 k ∧ IntOut w1.heap.size wr ov (ints (holdL (M (i, g)) k)) ∧ Below w1.heap.size w1 wr) (fun _ kv _ => 8 - (intOf kv).toNat)
  case atStart => exact ⟨0, by omega, rfl, LOut.nil (Nat.le_refl _), Below.refl _ _⟩
  case round =>
    obtain ⟨k, hk, rfl, hO, hbr⟩ := hrel
    by_cases hlt : k < 8
    · have hlt' : (k : Int) < 8 := by omega
      have hr := h1.below hbr
      have q0 : wr.cell? ⟨w.heap.size, 0, none⟩ = some (.int .i64 i) := by rw [hbr.cell (p := ⟨w.heap.size, 0, none⟩) (by show w.heap.size < w1.heap.size; omega)]; exact HB.out.1
      have q1 : wr.cell? ⟨w.heap.size, 1, none⟩ = some (.int .i64 g) := by rw [hbr.cell (p := ⟨w.heap.size, 1, none⟩) (by show w.heap.size < w1.heap.size; omega)]; exact HB.out.2
      have hlen := holdL_len (M (i, g)) k
      have hsucc := holdL_succ (M (i, g)) k
      have hol : (ints (holdL (M (i, g)) k)).length ≤ 1000 := by rw [ints_len]; omega
      have HS := Lib.hid hsucc
      clear hsucc hlen
      go_wp2_with fail
      refine (mode_yes wr pv M hr i g k hlt).mono ?_
      rintro e w3 ⟨rfl, hb3⟩
      have hO3 := hO.below hb3
      have hbr3 : Below w1.heap.size w1 w3 := hbr.trans (hb3.mono hbr.size)
      clear hO hbr hb3 hr q0 q1
      by_cases hz : mo (M (i, g)) k = 0
      · have HZ := Lib.hid hz
        rw [hz]
        clear hz
        go_wp2
        go_roundw
        case rel => exact ⟨k + 1, by omega, by go_num, by rw [HS.out, HZ.out]; simpa using hO3, hbr3⟩
        case measure => simp [intOf]; omega
      · have HZ := Lib.hid hz
        have hz' : (((mo (M (i, g)) k : Nat) : Int) == 0) = false := by simpa using (show ¬ ((mo (M (i, g)) k : Nat) : Int) = 0 by omega)
        generalize ((mo (M (i, g)) k : Nat) : Int) = d at *
        clear hz
        go_wp2_with (first
          | ((with_reducible refine wpList_append1 elI hO3 (k : Int) hol ?_ ?_ ?_ ?_); rfl; rfl; rfl; (intro v2 w4 hO4 hb4); go_frame)
          | fail)
        refine ⟨⟨k + 1, by omega, by go_num, ?_, hbr3.trans hb4⟩, by simp [intOf]; omega⟩
        rw [HS.out, if_pos HZ.out, ints_append]
        exact hO4
    · obtain rfl : k = 8 := by omega
      go_wp2
      go_ret
      exact ⟨⟨_, rfl, hO.mono (by omega)⟩, hW.trans (hbr.mono (by omega))⟩

/-- Who stands in the way. -/
def inWay (m : Nat) (client mode : Int) (c : Nat) : Bool := decide ((c : Int) ≠ client) && (decide (mode = 2) || decide (mo m c = 2))
def otherL (m : Nat) (client mode : Int) : List Nat := (holdL m 8).filter (inWay m client mode)

set_option maxRecDepth 20000 in
set_option maxHeartbeats 2000000 in
theorem others_any (w : World) (pv : Value) (M : Fi → Nat) (h : TabV w pv M) (i g client mode : Int) : Calls Try.prog 10 #[pv, .agg #[.int .i64 i, .int .i64 g], .int .i64 client, .int .i64 mode] w
    fun e w' => (∃ v, e = .returned v ∧ IntOut w.heap.size w' v (ints (otherL (M (i, g)) client mode))) ∧ Below w.heap.size w w' := by
  obtain ⟨w1, hw1⟩ : ∃ w1, w.alloc (.cells #[.int .i64 i, .int .i64 g] 24) = w1 := ⟨_, rfl⟩
  have hW : Below w.heap.size w w1 := by rw [← hw1]; exact (Below.refl _ _).alloc (Nat.le_refl _) _
  have hsz1 : w1.heap.size = w.heap.size + 1 := by rw [← hw1]; simp
  have hbox : w1.cell? ⟨w.heap.size, 0, none⟩ = some (.int .i64 i) ∧ w1.cell? ⟨w.heap.size, 1, none⟩ = some (.int .i64 g) := by
    rw [← hw1]; exact ⟨cell_of heap_alloc_at rfl, cell_of heap_alloc_at rfl⟩
  have h1 := h.below hW
  have hH := holders_any w1 pv M h1 i g
  have HB := Lib.hid hbox
  have H1 := Lib.hid hw1
  have hs1 := hsz1
  clear h hbox hw1 hsz1
  go_enter Try.func10, Try.ntmps10
  go_wp2_with fail
  rw [H1.out]
  refine hH.mono ?_
  rintro e w2 ⟨⟨v, rfl, hOv⟩, hb2⟩
  have hsl := hOv.sl elI.len
  have h2 := h1.below hb2
  have hlen := holdL_len (M (i, g)) 8
  have hm8 : ∀ c ∈ holdL (M (i, g)) 8, c < 8 := fun c hc => List.mem_range.1 (List.mem_filter.1 hc).1
  have hs2 : w1.heap.size ≤ w2.heap.size := hb2.size
  have hbox2 : w2.cell? ⟨w.heap.size, 0, none⟩ = some (.int .i64 i) ∧ w2.cell? ⟨w.heap.size, 1, none⟩ = some (.int .i64 g) := by
    rw [hb2.cell (p := ⟨w.heap.size, 0, none⟩) (by show w.heap.size < w1.heap.size; omega), hb2.cell (p := ⟨w.heap.size, 1, none⟩) (by show w.heap.size < w1.heap.size; omega)]
    exact HB.out
  have HB2 := Lib.hid hbox2
  have hbel2 : Below w.heap.size w w2 := hW.trans (hb2.mono (by omega))
  have HO : otherL (M (i, g)) client mode = (holdL (M (i, g)) 8).filter (inWay (M (i, g)) client mode) := rfl
  obtain ⟨ao, cap, rfl, hcl, hcm, hx⟩ := hsl
  unfold maxLen at hcm
  have hie : (ints (holdL (M (i, g)) 8)).length = (holdL (M (i, g)) 8).length := ints_len _
  have hget : ∀ (k : Nat) (hk : k < (holdL (M (i, g)) 8).length), (ints (holdL (M (i, g)) 8))[k]? = some (((holdL (M (i, g)) 8)[k] : Nat) : Int) := fun k hk => by simp [ints, hk]
  have HOv := Lib.hid HO
  clear hOv hb2 hbox2 HO
  generalize holdL (M (i, g)) 8 = hs at *
  generalize ints hs = ihs at *
  rw [hie] at hcl hx ⊢
  go_wp2
  go_loopw [9, 16] (fun ov kv wr => ∃ k : Nat, k ≤ hs.length ∧ kv = .int .i64 k ∧ IntOut w2.heap.size wr ov (ints ((hs.take k).filter (inWay (M (i, g)) client mode))) ∧ Below w2.heap.size w2 wr) (fun _ kv _ => hs.length - (intOf kv).toNat)
  case atStart => exact ⟨0, Nat.zero_le _, rfl, LOut.nil (Nat.le_refl _), Below.refl _ _⟩
  case round =>
    obtain ⟨k, hk, rfl, hO, hbr⟩ := hrel
    by_cases hlt : k < hs.length
    · have hlt' : (k : Int) < (hs.length : Int) := by omega
      obtain ⟨bb, off, rfl, hbb, hcs⟩ := hx (by omega)
      have hcell : wr.cell? ⟨bb, off + k, none⟩ = some (.int .i64 ((hs[k] : Nat) : Int)) := by
        rw [hbr.cell (p := ⟨bb, off + k, none⟩) hbb]
        exact intCell (hcs k _ (hget k hlt))
      have hc8 : hs[k] < 8 := hm8 _ (List.getElem_mem hlt)
      have hr := h2.below hbr
      have q0 : wr.cell? ⟨w.heap.size, 0, none⟩ = some (.int .i64 i) := by rw [hbr.cell (p := ⟨w.heap.size, 0, none⟩) (by show w.heap.size < w2.heap.size; omega)]; exact HB2.out.1
      have q1 : wr.cell? ⟨w.heap.size, 1, none⟩ = some (.int .i64 g) := by rw [hbr.cell (p := ⟨w.heap.size, 1, none⟩) (by show w.heap.size < w2.heap.size; omega)]; exact HB2.out.2
      have htk : (hs.take (k + 1)).filter (inWay (M (i, g)) client mode) = (hs.take k).filter (inWay (M (i, g)) client mode) ++ (if inWay (M (i, g)) client mode hs[k] then [hs[k]] else []) := by
        rw [List.take_succ_eq_append_getElem hlt, List.filter_append]
        congr 1
        simp [List.filter]
        split <;> simp_all
      have hol : (ints ((hs.take k).filter (inWay (M (i, g)) client mode))).length ≤ 1000 := by
        have := List.length_filter_le (inWay (M (i, g)) client mode) (hs.take k)
        rw [List.length_take] at this
        rw [ints_len]
        omega
      have hiw : inWay (M (i, g)) client mode hs[k] = (decide (((hs[k] : Nat) : Int) ≠ client) && (decide (mode = 2) || decide (mo (M (i, g)) hs[k] = 2))) := rfl
      clear hcs hx
      generalize hs[k] = c at *
      have HT := Lib.hid htk
      have HI := Lib.hid hiw
      clear htk hiw
      have skip : inWay (M (i, g)) client mode c = false → IntOut w2.heap.size wr u9 (ints ((hs.take (k + 1)).filter (inWay (M (i, g)) client mode))) := fun hf => by
        rw [HT.out, hf]
        simpa using hO
      by_cases h1c : (c : Int) = client
      · have t1 : ((c : Int) == client) = true := by simpa using h1c
        have t1' : ((c : Int) != client) = false := by simpa using h1c
        have hsk := skip (by rw [HI.out]; simp [h1c])
        clear h1c skip
        go_wp2
        go_roundw
        case rel => exact ⟨k + 1, by omega, by go_num, hsk, hbr⟩
        case measure => simp [intOf]; omega
      · have t1 : ((c : Int) == client) = false := by simpa using h1c
        have t1' : ((c : Int) != client) = true := by simpa using h1c
        by_cases h2c : mode = 2
        · subst h2c
          have hin : inWay (M (i, g)) client 2 c = true := by rw [HI.out]; simp [h1c]
          have HN := Lib.hid hin
          clear h1c skip hin
          go_wp2_with (first
            | ((with_reducible refine wpList_append1 elI hO (c : Int) hol ?_ ?_ ?_ ?_); rfl; rfl; rfl; (intro v2 w4 hO4 hb4); go_frame)
            | fail)
          refine ⟨⟨k + 1, by omega, by go_num, ?_, hbr.trans hb4⟩, by simp [intOf]; omega⟩
          rw [HT.out, if_pos HN.out, ints_append]
          exact hO4
        · have t2 : (mode == 2) = false := by simpa using h2c
          have hmode := mode_yes wr pv M hr i g c hc8
          clear skip
          go_wp2_with fail
          refine hmode.mono ?_
          rintro e w3 ⟨rfl, hb3⟩
          have hO3 := hO.below hb3
          have hbr3 : Below w2.heap.size w2 w3 := hbr.trans (hb3.mono hbr.size)
          clear hO hbr hb3 hr q0 q1 hmode hcell
          by_cases h3c : mo (M (i, g)) c = 2
          · have hin : inWay (M (i, g)) client mode c = true := by rw [HI.out]; simp [h1c, h3c]
            have HN := Lib.hid hin
            rw [h3c]
            clear h1c h2c h3c hin
            go_wp2_with (first
              | ((with_reducible refine wpList_append1 elI hO3 (c : Int) hol ?_ ?_ ?_ ?_); rfl; rfl; rfl; (intro v2 w4 hO4 hb4); go_frame)
              | fail)
            refine ⟨⟨k + 1, by omega, by go_num, ?_, hbr3.trans hb4⟩, by simp [intOf]; omega⟩
            rw [HT.out, if_pos HN.out, ints_append]
            exact hO4
          · have hin : inWay (M (i, g)) client mode c = false := by rw [HI.out]; simp [h2c, h3c]
            have HN := Lib.hid hin
            have t3 : (((mo (M (i, g)) c : Nat) : Int) == 2) = false := by simpa using (show ¬ ((mo (M (i, g)) c : Nat) : Int) = 2 by omega)
            generalize ((mo (M (i, g)) c : Nat) : Int) = d at *
            clear h1c h2c h3c hin
            go_wp2
            go_roundw
            case rel => exact ⟨k + 1, by omega, by go_num, by rw [HT.out, HN.out]; simpa using hO3, hbr3⟩
            case measure => simp [intOf]; omega
    · obtain rfl : k = hs.length := by omega
      rw [List.take_of_length_le (Nat.le_refl _)] at hO
      go_wp2
      go_ret
      exact ⟨⟨_, rfl, by rw [HOv.out]; exact hO.mono (by omega)⟩, hbel2.trans (hbr.mono (by omega))⟩
end Go.Proofs.Ytnjiocikpigegaa
