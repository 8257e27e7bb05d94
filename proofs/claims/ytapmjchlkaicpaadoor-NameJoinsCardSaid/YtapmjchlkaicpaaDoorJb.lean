/- Walks of what makes paths of names. -/
import Derived.Test.YtapmjchlkaicpaaDoorJa
import Derived.Test.YtapmjchlkaicpaaDoorWh
namespace Go.Proofs.YtapmjchlkaicpaaDoor
open Go.RowKit Go.Tn Go.Tn.Names

def sizesTo (n : Nat) (xs : List ByteArray) : Prop := ∀ x ∈ xs, x.size ≤ n

set_option maxHeartbeats 4000000 in
theorem texts_any (w : World) (v : Value) (xs : List ByteArray) (h : TextSl w v xs) (hsz : sizesTo maxLen xs) : Calls Tryd.prog 14 #[v, .int .i64 10] w
    fun e w' => (∃ u ys, e = .returned u ∧ TextSl w' u ys ∧ ys.length ≤ 10 ∧ sizesTo 20 ys) ∧ Below w.heap.size w w' := by
  obtain ⟨ao, cap, rfl, hl, hm, hx⟩ := h
  unfold maxLen at hm
  go_enter Tryd.func14, Tryd.ntmps14
  go_wp2
  go_loopw [5, 6] (fun u kv wr => ∃ (k : Nat) (ys : List ByteArray), k ≤ 10 ∧ k ≤ xs.length ∧ kv = .int .i64 k ∧ Outs w.heap.size wr u ys ∧ ys.length = k ∧ sizesTo 20 ys ∧ Below w.heap.size w wr) (fun _ kv _ => 10 - (intOf kv).toNat)
  case atStart => exact ⟨0, [], by omega, by omega, rfl, Outs.nil (Nat.le_refl _), rfl, (fun x hx => by cases hx), Below.refl _ _⟩
  case round =>
    obtain ⟨k, ys, hk10, hkl, rfl, hO, hyl, hys, hb⟩ := hrel
    by_cases hgo : k < xs.length ∧ k < 10
    · obtain ⟨hlt, h10⟩ := hgo
      have hlt' : (k : Int) < (xs.length : Int) := by omega
      have h10' : (k : Int) < 10 := by omega
      obtain ⟨b, off, rfl, hbl, hc⟩ := hx (by omega)
      have hcell : wr.cell? ⟨b, off + k, none⟩ = some (.string xs[k]) := by
        rw [hb.cell (p := ⟨b, off + k, none⟩) hbl]
        exact hc k _ (List.getElem?_eq_getElem hlt)
      have hs := fun w => short_any w xs[k] 20 (hsz xs[k] (List.getElem_mem hlt)) (by decide)
      clear hc hx hsz
      generalize xs[k] = x at *
      go_wp2_with fail
      refine (hs wr).mono ?_
      rintro e w2 ⟨t, rfl, _, ht, hw⟩
      obtain rfl := hw.symm
      clear hw
      have hys2 : sizesTo 20 (ys ++ [t]) := fun y hy => by
        rcases List.mem_append.1 hy with h | h
        · exact hys y h
        · have : y = t := by simpa using h
          rw [this]; exact ht
      have HY := Lib.hid hyl
      have hy10 : ys.length ≤ 1000 := by omega
      clear hyl
      go_wp2_with ((with_reducible refine wpList_append hO t hy10 ?_ ?_ ?_); rfl; rfl; (intro v2 w2 hO2 hb2); go_frame)
      exact ⟨⟨k + 1, ys ++ [t], by omega, by omega, by go_num, hO2, by simp [HY.out], hys2, hb.trans hb2⟩, by simp [intOf]; omega⟩
    · have hsl := hO.sl
      by_cases hlt : k < xs.length
      case' pos =>
        have hlt' : (k : Int) < (xs.length : Int) := by omega
        have h10' : (10 : Int) ≤ (k : Int) := by omega
      case' neg =>
        have hlt' : (xs.length : Int) ≤ (k : Int) := by omega
        have h10' : True := trivial
      all_goals
        clear hgo hx hsz
        go_wp2
        go_ret
        exact ⟨⟨_, ys, rfl, hsl, by omega, hys⟩, hb⟩

set_option maxHeartbeats 4000000 in
theorem join_any (w : World) (v : Value) (xs : List ByteArray) (h : TextSl w v xs) (hlen : xs.length ≤ 10) : Calls Tryd.prog 15 #[v] w
    fun e w' => (∃ s, e = .returned (.string s) ∧ bs s = joinP (texts xs)) ∧ Below w.heap.size w w' := by
  have hcf := fun w' h => containsFunc_any w' v xs h
  have h' := h
  obtain ⟨ao, cap, rfl, hl, hm, hx⟩ := h'
  unfold maxLen at hm
  by_cases h8 : xs.length ≤ 8
  · have h8' : (xs.length : Int) ≤ 8 := by omega
    cases hn : (texts xs).all isName with
    | false =>
      rw [hn] at hcf
      simp only [Bool.not_false] at hcf
      have hJ := Lib.hid (show joinP (texts xs) = [] from joinP_no (fun h => by have h2 := h.2; rw [hn] at h2; cases h2))
      clear hn hx
      go_enter Tryd.func15, Tryd.ntmps15
      go_wp2_with fail
      refine (hcf w h).mono ?_
      rintro e w2 ⟨rfl, hb⟩
      go_wp2
      go_ret
      exact ⟨⟨_, rfl, by rw [hJ.out]⟩, hb⟩
    | true =>
      rw [hn] at hcf
      simp only [Bool.not_true] at hcf
      have hok : okNames (texts xs) := ⟨by simpa [texts] using h8, hn⟩
      have hJ := joinP_yes hok
      have hT := tl_len (texts xs) hn
      by_cases h0 : xs = []
      · subst h0
        have hJ' := Lib.hid (show joinP (texts []) = [47] from hJ)
        clear hJ hn hx hok hT
        go_enter Tryd.func15, Tryd.ntmps15
        go_wp2_with fail
        refine (hcf w h).mono ?_
        rintro e w2 ⟨rfl, hb⟩
        go_wp2_with fail
        refine (Tryd.strings_Join_none _ _ ⟨#[47]⟩ w2).mono ?_
        rintro e w3 ⟨rfl, rfl⟩
        go_wp2
        go_ret
        exact ⟨⟨_, rfl, by rw [hJ'.out]; rfl⟩, hb⟩
      · have hne : texts xs ≠ [] := by simpa [texts] using h0
        rw [if_neg hne] at hJ
        have hJ2 : joinP (texts xs) = 47 :: Lib.join (texts xs) [47] := by rw [hJ, join_tl _ hne]
        have hjl : (Lib.join (texts xs) [47]).length ≤ 200 := by
          have e := congrArg List.length (join_tl (texts xs) hne)
          simp only [List.length_cons] at e
          have : (texts xs).length ≤ 8 := hok.1
          omega
        have hJ' := Lib.hid hJ2
        have hpos : 0 < xs.length := List.length_pos_iff.2 h0
        clear hJ hn hok hT hJ2 h0
        obtain ⟨b, off, rfl, _, _⟩ := hx hpos
        clear hx
        go_enter Tryd.func15, Tryd.ntmps15
        go_wp2_with fail
        refine (hcf w h).mono ?_
        rintro e w2 ⟨rfl, hb⟩
        have h2 := h.below hb
        obtain ⟨ao2, cap2, he2, _, _, hx2⟩ := h2
        obtain ⟨b2, off2, he3, hb2, hc2⟩ := hx2 hpos
        simp only [Value.slice.injEq] at he2
        obtain ⟨hao, _, hcap⟩ := he2
        subst hcap
        rw [he3] at hao
        cases hao
        clear he3 hx2
        have hlj : (Lib.join (xs.map (·.data.toList)) (⟨#[47]⟩ : ByteArray).data.toList).length ≤ 140737488355328 := by
          show (Lib.join (texts xs) [47]).length ≤ 140737488355328
          omega
        have hln : xs.length ≤ 140737488355328 := by omega
        have hsj := Tryd.strings_Join b off cap xs ⟨#[47]⟩ w2 (fun j x hj => hc2 j x hj) hb2 hln hl hlj
        clear hlj hln
        go_wp2_with fail
        refine hsj.mono ?_
        rintro e w3 ⟨rfl, hb3⟩
        generalize hjj : (⟨(Lib.join (xs.map (·.data.toList)) (⟨#[47]⟩ : ByteArray).data.toList).toArray⟩ : ByteArray) = j at *
        have hj : bs j = Lib.join (texts xs) [47] := by rw [← hjj]
        have hsize : j.size ≤ 200 := by rw [← bs_len, hj]; exact hjl
        have hcat : (⟨#[47]⟩ : ByteArray).size + j.size ≤ 9223372036854775807 := by
          have : (⟨#[47]⟩ : ByteArray).size = 1 := rfl
          omega
        have hcat' : 1 + j.size ≤ 9223372036854775807 := by omega
        have hJ3 := Lib.hid (show bs ((⟨#[47]⟩ : ByteArray) ++ j) = joinP (texts xs) by
          rw [hJ'.out, ← hj]
          simp [bs])
        clear hj hjj hc2
        go_wp2
        go_ret
        exact ⟨⟨_, rfl, hJ3.out⟩, hb.trans (hb3.mono hb.size)⟩
  · have h8' : (8 : Int) < (xs.length : Int) := by omega
    have hJ := Lib.hid (show joinP (texts xs) = [] from joinP_no (fun h => h8 (by simpa [texts] using h.1)))
    clear hx h8
    go_enter Tryd.func15, Tryd.ntmps15
    go_wp2
    go_ret
    exact ⟨⟨_, rfl, by rw [hJ.out]⟩, Below.refl _ _⟩

end Go.Proofs.YtapmjchlkaicpaaDoor
