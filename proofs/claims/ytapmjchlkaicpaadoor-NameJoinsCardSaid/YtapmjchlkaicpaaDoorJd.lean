/- Join, by the document: walked. -/
import Derived.Test.YtapmjchlkaicpaaDoorJb
namespace Go.Proofs.YtapmjchlkaicpaaDoor
open Go.RowKit Go.Tn Go.Tn.Names

set_option maxHeartbeats 4000000 in
theorem rJoin_any (w : World) (v : Value) (xs : List ByteArray) (h : TextSl w v xs) (hlen : xs.length ≤ 10) (hsz : sizesTo 20 xs) : Calls Tryd.prog 16 #[v] w
    fun e w' => (∃ s, e = .returned (.string s) ∧ bs s = joinP (texts xs)) ∧ w' = w := by
  obtain ⟨ao, cap, rfl, hl, hm, hx⟩ := h
  unfold maxLen at hm
  by_cases h0 : xs = []
  · subst h0
    have hJ := Lib.hid (show joinP (texts []) = [47] from rfl)
    go_enter Tryd.func16, Tryd.ntmps16
    go_wp2
    go_ret
    exact ⟨⟨_, rfl, by rw [hJ.out]⟩, rfl⟩
  · have hpos : 0 < xs.length := List.length_pos_iff.2 h0
    have hpos' : ((xs.length : Int) == 0) = false := by simp; omega
    obtain ⟨b, off, rfl, hbl, hc⟩ := hx hpos
    have hne : texts xs ≠ [] := by simpa [texts] using h0
    clear hx
    go_enter Tryd.func16, Tryd.ntmps16
    go_wp2
    go_loopw [3, 4] (fun cv kv wr => ∃ (k : Nat) (cur : ByteArray), k ≤ xs.length ∧ k ≤ 8 ∧ kv = .int .i64 k ∧ cv = .string cur ∧ bs cur = tl (texts (xs.take k)) ∧ (texts (xs.take k)).all isName = true ∧ cur.size ≤ 21 * k ∧ wr = w) (fun _ kv _ => xs.length - (intOf kv).toNat)
    case atStart => exact ⟨0, ByteArray.empty, by omega, by omega, rfl, rfl, rfl, rfl, by simp, rfl⟩
    case round =>
      obtain ⟨k, cur, hk, hk8, rfl, rfl, hcur, hall, hcs, rfl⟩ := hrel
      by_cases hlt : k < xs.length
      · have hlt' : (k : Int) < (xs.length : Int) := by omega
        have hcell := hc k xs[k] (List.getElem?_eq_getElem hlt)
        have hx20 := hsz xs[k] (List.getElem_mem hlt)
        have hI := fun w => rIs_any w xs[k] (by omega)
        have htk : texts (xs.take (k + 1)) = texts (xs.take k) ++ [bs xs[k]] := by
          rw [List.take_succ_eq_append_getElem hlt]
          exact List.map_append
        cases hn : isName (bs xs[k]) with
        | false =>
          rw [hn] at hI
          have hJ := Lib.hid (show joinP (texts xs) = [] from joinP_no (fun h => by
            have := List.all_eq_true.1 h.2 (bs xs[k]) (List.mem_map.2 ⟨xs[k], List.getElem_mem hlt, rfl⟩)
            rw [hn] at this; cases this))
          clear hc hsz hn htk
          generalize xs[k] = x at *
          go_wp2_with (go_at_call 10; refine (hI _).mono ?_; rintro e w2 ⟨rfl, hw2⟩; obtain rfl := hw2.symm; clear hw2)
          go_ret
          exact ⟨⟨_, rfl, by rw [hJ.out]⟩, rfl⟩
        | true =>
          rw [hn] at hI
          by_cases h8 : k = 8
          · subst h8
            have hJ := Lib.hid (show joinP (texts xs) = [] from joinP_no (fun h => by
              have := h.1
              simp [texts] at this
              omega))
            rw [show ((8 : Nat) : Int) = 8 from rfl] at *
            clear hc hsz hn htk
            generalize xs[8] = x at *
            go_wp2_with (go_at_call 10; refine (hI _).mono ?_; rintro e w2 ⟨rfl, hw2⟩; obtain rfl := hw2.symm; clear hw2)
            go_ret
            exact ⟨⟨_, rfl, by rw [hJ.out]⟩, rfl⟩
          · have h8' : ((k : Int) == 8) = false := by simp; omega
            have hN := Lib.hid (show bs (cur ++ (⟨#[47]⟩ : ByteArray) ++ xs[k]) = tl (texts (xs.take (k + 1))) ∧ (texts (xs.take (k + 1))).all isName = true by
              rw [htk, tl_snoc, ← hcur]
              refine ⟨by simp [bs], ?_⟩
              rw [List.all_append, hall]
              simp [hn])
            have hone : (⟨#[47]⟩ : ByteArray).size = 1 := rfl
            have hcat : cur.size + (⟨#[47]⟩ : ByteArray).size ≤ 9223372036854775807 := by omega
            have hcat1 : cur.size + 1 ≤ 9223372036854775807 := by omega
            have hcat2 : (cur ++ (⟨#[47]⟩ : ByteArray)).size + xs[k].size ≤ 9223372036854775807 := by rw [ByteArray.size_append]; omega
            have hcat3 : cur.size + 1 + xs[k].size ≤ 9223372036854775807 := by omega
            have hsz2 := Lib.hid (show (cur ++ (⟨#[47]⟩ : ByteArray) ++ xs[k]).size ≤ 21 * (k + 1) by rw [ByteArray.size_append, ByteArray.size_append]; omega)
            clear hc hsz hn htk hcur hall
            generalize xs[k] = x at *
            go_wp2_with (go_at_call 10; refine (hI _).mono ?_; rintro e w2 ⟨rfl, hw2⟩; obtain rfl := hw2.symm; clear hw2)
            go_roundw
            case rel => exact ⟨k + 1, _, by omega, by omega, by go_num, rfl, hN.out.1, hN.out.2, hsz2.out, trivial⟩
            case measure => simp [intOf]; omega
      · obtain rfl : k = xs.length := by omega
        rw [List.take_of_length_le (Nat.le_refl _)] at hcur hall
        have hJ := Lib.hid (show bs cur = joinP (texts xs) by
          rw [joinP_yes ⟨by simpa [texts] using hk8, hall⟩, if_neg hne, hcur])
        clear hc hsz hcur hall
        go_wp2
        go_ret
        exact ⟨⟨_, rfl, hJ.out⟩, rfl⟩
end Go.Proofs.YtapmjchlkaicpaaDoor
