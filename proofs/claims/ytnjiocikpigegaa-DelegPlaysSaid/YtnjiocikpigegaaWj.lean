/- Of, Len walked. -/
import Derived.Test.YtnjiocikpigegaaWi
namespace Go.Proofs.Ytnjiocikpigegaa
open Go.RowKit Go.Tn Go.Tn.Mo Go.Maps Go.Sort Go.Shelf

/-- What a client has, whatever its number. -/
def modeI (m : Nat) (client : Int) : Nat := if 0 ≤ client ∧ client < 8 then mo m client.toNat else 0
theorem modeI_nat (m : Nat) {c : Nat} (hc : c < 8) : modeI m c = mo m c := by unfold modeI; rw [if_pos (by omega), Int.toNat_natCast]
theorem modeI_out (m : Nat) {c : Int} (hc : c < 0 ∨ 8 ≤ c) : modeI m c = 0 := by unfold modeI; rw [if_neg (by omega)]
theorem modeI_zero (c : Int) : modeI 0 c = 0 := by unfold modeI; split <;> simp [mo]
theorem mode_any (w : World) (pv : Value) (M : Fi → Nat) (h : TabV w pv M) (i g client : Int) : Calls Try.prog 12 #[pv, .agg #[.int .i64 i, .int .i64 g], .int .i64 client] w
    fun e w' => e = .returned (.int .i64 (modeI (M (i, g)) client)) ∧ Below w.heap.size w w' := by
  by_cases hc : client < 0 ∨ 8 ≤ client
  · rw [modeI_out _ hc]
    exact mode_no w pv i g client hc
  · obtain ⟨c, rfl⟩ : ∃ c : Nat, client = (c : Int) := ⟨client.toNat, by omega⟩
    rw [modeI_nat _ (by omega)]
    exact mode_yes w pv M h i g c (by omega)

/-- A client's files, of these. -/
def ofL (M : Fi → Nat) (FL : List Fi) (client : Int) : List Fi := FL.filter fun f => decide (modeI (M f) client ≠ 0)

set_option maxHeartbeats 2000000 in
theorem of_files (w : World) (pv : Value) (M : Fi → Nat) (h : TabL w pv M) (FL : List Fi) (hFL : FilesOf M FL) (client : Int) : Calls Try.prog 27 #[pv, .int .i64 client] w
    fun e w' => (∃ v, e = .returned v ∧ LOut enF 2 24 w.heap.size w' v (ofL M FL client)) ∧ FL.length ≤ 1000 ∧ Below w.heap.size w w' := by
  have hf := files_any w pv M h
  have hv := h.v
  go_enter Try.func27, Try.ntmps27
  go_wp2_with fail
  refine hf.mono ?_
  rintro e w2 ⟨v, FL', rfl, hFL', hlen, hR, hb2⟩
  obtain rfl := filesOf_uniq hFL hFL'
  have hv2 := hv.below hb2
  have hlo := hR.lo
  obtain ⟨ao, cap, rfl, hcl, hcm, hx⟩ := hR.sl
  unfold maxLen at hcm
  have HO : ofL M FL client = FL.filter fun f => decide (modeI (M f) client ≠ 0) := rfl
  have HOv := Lib.hid HO
  clear HO hR hf hlo hFL hFL' h
  go_wp2
  go_loopw [5, 11] (fun ov kv wr => ∃ k : Nat, k ≤ FL.length ∧ kv = .int .i64 k ∧ LOut enF 2 24 w2.heap.size wr ov ((FL.take k).filter fun f => decide (modeI (M f) client ≠ 0)) ∧ Below w2.heap.size w2 wr) (fun _ kv _ => FL.length - (intOf kv).toNat)
  case atStart => exact ⟨0, Nat.zero_le _, rfl, LOut.nil (Nat.le_refl _), Below.refl _ _⟩
  case round =>
    obtain ⟨k, hk, rfl, hO, hbr⟩ := hrel
    by_cases hlt : k < FL.length
    · have hlt' : (k : Int) < (FL.length : Int) := by omega
      obtain ⟨bb, off, rfl, hbb, hcs⟩ := hx (by omega)
      have hcell := (hcs k _ (List.getElem?_eq_getElem hlt)).below' hbr hbb
      have hvr := hv2.below hbr
      have htk : (FL.take (k + 1)).filter (fun f => decide (modeI (M f) client ≠ 0)) = (FL.take k).filter (fun f => decide (modeI (M f) client ≠ 0)) ++ (if modeI (M FL[k]) client ≠ 0 then [FL[k]] else []) := by
        rw [List.take_succ_eq_append_getElem hlt, List.filter_append]
        congr 1
        simp only [List.filter]
        by_cases hz : modeI (M FL[k]) client = 0 <;> simp [hz]
      have hol : ((FL.take k).filter fun f => decide (modeI (M f) client ≠ 0)).length ≤ 1000 := by
        have := List.length_filter_le (fun f => decide (modeI (M f) client ≠ 0)) (FL.take k)
        rw [List.length_take] at this
        omega
      clear hcs hx
      generalize FL[k] = f at *
      obtain ⟨i, g⟩ := f
      have hmode := mode_any (wr.alloc (.cells #[.int .i64 i, .int .i64 g] 24)) pv M (hvr.below ((Below.refl _ _).alloc (Nat.le_refl _) _)) i g client
      have q0 : wr.cell? ⟨bb, off + k * 2, none⟩ = some (.int .i64 i) := hcell 0 (by simp [enF])
      have q1 : wr.cell? ⟨bb, off + k * 2 + 1, none⟩ = some (.int .i64 g) := hcell 1 (by simp [enF])
      have hal : Below wr.heap.size wr (wr.alloc (.cells #[.int .i64 i, .int .i64 g] 24)) := (Below.refl _ _).alloc (Nat.le_refl _) _
      have hbx : (wr.alloc (.cells #[.int .i64 i, .int .i64 g] 24)).heap[wr.heap.size]? = some (.cells #[.int .i64 i, .int .i64 g] 24 (0, 0)) := heap_alloc_at
      have HM := Lib.hid hmode
      have HT := Lib.hid htk
      have HC := Lib.hid hcell
      have HB := Lib.hid hbx
      clear hmode htk hcell hbx
      go_wp2_with (first
        | ((with_reducible refine wpList_loadA (aggF i g) HC.out ?_ ?_); rfl; go_frame)
        | fail)
      refine HM.out.mono ?_
      rintro e w3 ⟨rfl, hb3⟩
      have hO3 := (hO.below hal).below hb3
      have hbr3 : Below w2.heap.size w2 w3 := hbr.trans ((hal.trans (hb3.mono (by simp))).mono hbr.size)
      have x0 : w3.cell? ⟨wr.heap.size, 0, none⟩ = some (.int .i64 i) := by rw [hb3.cell (p := ⟨wr.heap.size, 0, none⟩) (by simp)]; exact cell_of HB.out rfl
      have x1 : w3.cell? ⟨wr.heap.size, 1, none⟩ = some (.int .i64 g) := by rw [hb3.cell (p := ⟨wr.heap.size, 1, none⟩) (by simp)]; exact cell_of HB.out rfl
      clear hO hbr hb3 hvr q0 q1 hal
      generalize hbxn : wr.heap.size = bx at *
      by_cases hz : modeI (M (i, g)) client = 0
      · have HZ := Lib.hid hz
        rw [hz]
        clear hz
        go_wp2
        go_roundw
        case rel => exact ⟨k + 1, by omega, by go_num, by rw [HT.out, HZ.out]; simpa using hO3, hbr3⟩
        case measure => simp [intOf]; omega
      · have HZ := Lib.hid hz
        have hz' : (((modeI (M (i, g)) client : Nat) : Int) == 0) = false := by simpa using (show ¬ ((modeI (M (i, g)) client : Nat) : Int) = 0 by omega)
        generalize ((modeI (M (i, g)) client : Nat) : Int) = d at *
        clear hz
        go_wp2_with (first
          | ((with_reducible refine wpList_append1 elF hO3 (i, g) hol ?_ ?_ ?_ ?_); rfl; rfl; rfl; (intro v2 w4 hO4 hb4); go_frame)
          | fail)
        refine ⟨⟨k + 1, by omega, by go_num, ?_, hbr3.trans hb4⟩, by simp [intOf]; omega⟩
        rw [HT.out, if_pos HZ.out]
        exact hO4
    · obtain rfl : k = FL.length := by omega
      rw [List.take_of_length_le (Nat.le_refl _)] at hO
      go_wp2
      go_ret
      exact ⟨⟨_, rfl, by rw [HOv.out]; exact hO.mono hb2.size⟩, hlen, hb2.trans (hbr.mono hb2.size)⟩

/-- How many delegations of the first k clients. -/
def lenN (M : Fi → Nat) (FL : List Fi) : Nat → Nat
  | 0 => 0
  | k + 1 => lenN M FL k + (ofL M FL (k : Nat)).length
theorem ofL_len (M : Fi → Nat) (FL : List Fi) (c : Int) : (ofL M FL c).length ≤ FL.length := List.length_filter_le _ _
theorem lenN_le (M : Fi → Nat) (FL : List Fi) : ∀ k, lenN M FL k ≤ k * FL.length
  | 0 => by simp [lenN]
  | k + 1 => by
    have := lenN_le M FL k
    have := ofL_len M FL (k : Nat)
    rw [lenN, Nat.add_mul]
    omega

set_option maxHeartbeats 1000000 in
theorem len_any (w : World) (pv : Value) (M : Fi → Nat) (h : TabL w pv M) (FL : List Fi) (hFL : FilesOf M FL) : Calls Try.prog 22 #[pv] w
    fun e w' => e = .returned (.int .i64 (lenN M FL 8)) ∧ Below w.heap.size w w' := by
  go_enter Try.func22, Try.ntmps22
  go_wp2
  go_loopw [3, 5] (fun nv kv wr => ∃ k : Nat, k ≤ 8 ∧ kv = .int .i64 k ∧ nv = .int .i64 (lenN M FL k) ∧ (k = 0 ∨ FL.length ≤ 1000) ∧ Below w.heap.size w wr) (fun _ kv _ => 8 - (intOf kv).toNat)
  case atStart => exact ⟨0, by omega, rfl, rfl, .inl rfl, Below.refl _ _⟩
  case round =>
    obtain ⟨k, hk, rfl, rfl, hfl, hbr⟩ := hrel
    by_cases hlt : k < 8
    · have hlt' : (k : Int) < 8 := by omega
      have hof := of_files wr pv M (h.below hbr) FL hFL (k : Nat)
      have hlk := lenN_le M FL k
      have hsucc : lenN M FL (k + 1) = lenN M FL k + (ofL M FL (k : Nat)).length := rfl
      have holn := ofL_len M FL (k : Nat)
      have HS := Lib.hid hsucc
      clear hsucc
      have h8 : lenN M FL k ≤ 8000 := by
        rcases hfl with rfl | hfl
        · simp [lenN]
        · have h1 := Nat.mul_le_mul hk hfl
          omega
      go_wp2_with fail
      refine hof.mono ?_
      rintro e w3 ⟨⟨v, rfl, hO⟩, hfl3, hb3⟩
      obtain ⟨ao, cap, rfl, hcl, hcm, _⟩ := hO.sl elF.len
      have hbr3 : Below w.heap.size w w3 := hbr.trans (hb3.mono hbr.size)
      have hx1 : ((lenN M FL k : Nat) : Int) + (((ofL M FL (k : Nat)).length : Nat) : Int) ≤ 9000 := by omega
      have hx0 : (0 : Int) ≤ ((lenN M FL k : Nat) : Int) + (((ofL M FL (k : Nat)).length : Nat) : Int) := by omega
      clear hO hof hlk holn h8 hbr hb3 hcl hcm
      go_wp2
      go_roundw
      case rel => exact ⟨k + 1, by omega, by go_num, by rw [HS.out]; simp, .inr hfl3, hbr3⟩
      case measure => simp [intOf]; omega
    · obtain rfl : k = 8 := by omega
      go_wp2
      go_ret
      exact ⟨rfl, hbr⟩
end Go.Proofs.Ytnjiocikpigegaa
