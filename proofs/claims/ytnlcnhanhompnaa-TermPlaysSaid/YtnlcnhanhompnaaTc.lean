/- The document's lease: its walks. -/
import Derived.Test.YtnlcnhanhompnaaTb
namespace Go.Proofs.Ytnlcnhanhompnaa
open Go.RowKit Go.Tn

theorem RLeaseAt.slice {B : Nat} {w : World} {b t : Nat} {v : Value} {ss : List Nat} (h : RLeaseAt B w b t v ss) : ∃ ao cap, v = .slice ao ss.length cap ∧ ss.length ≤ cap ∧ cap ≤ maxLen ∧ (0 < ss.length → ∃ g, ao = some ⟨g, 0, none⟩ ∧ ∀ (i : Nat) (s : Nat), ss[i]? = some s → w.cell? ⟨g, i, none⟩ = some (encU s)) := by
  rcases h.own.form with ⟨rfl, h0⟩ | ⟨g, cap, cur, rfl, hle, hcm, hg, hcs, hcur⟩
  · have : ss = [] := by simpa using h0
    subst this
    exact ⟨none, 0, rfl, Nat.le_refl _, Nat.zero_le _, fun h => absurd h (Nat.lt_irrefl _)⟩
  · rw [List.length_map] at hle ⊢
    exact ⟨_, _, rfl, hle, hcm, fun _ => ⟨g, rfl, fun i s hi => cell_of hg (hcur i _ (by simp [hi]))⟩⟩

set_option maxHeartbeats 2000000 in
theorem rUntil_any (B : Nat) (w : World) (b t : Nat) (v : Value) (ss : List Nat) (h : RLeaseAt B w b t v ss) : Calls Try.prog 24 #[.pointer (some ⟨b, 0, none⟩)] w
    fun e w' => e = .returned (.int .u64 (latest t ss)) ∧ ∃ n, w' = w.drewN n := by
  have c0 : w.cell? ⟨b, 0, none⟩ = some (.int .i64 t) := cell_of h.blk rfl
  have c1 : w.cell? ⟨b, 1, none⟩ = some v := cell_of h.blk rfl
  obtain ⟨ao, cap, rfl, hl, hm, hx⟩ := h.slice
  have hle := h.le
  have ht2 := h.t2
  unfold maxLen at hm
  go_enter Try.func24, Try.ntmps24
  go_wp2
  go_loopw [3, 4] (fun uv kv wr => ∃ k : Nat, k ≤ ss.length ∧ kv = .int .i64 k ∧ uv = .int .u64 (latest t (ss.take k)) ∧ ∃ n, wr = w.drewN n) (fun _ kv _ => ss.length - (intOf kv).toNat)
  case atStart => exact ⟨0, Nat.zero_le _, rfl, rfl, 0, rfl⟩
  case round =>
    obtain ⟨k, hk, rfl, rfl, nd, rfl⟩ := hrel
    by_cases hlt : k < ss.length
    · have hlt' : (k : Int) < (ss.length : Int) := by omega
      obtain ⟨g, rfl, hcs⟩ := hx (by omega)
      have hcell := hcs k ss[k] (List.getElem?_eq_getElem hlt)
      have hs := hle ss[k] (List.getElem_mem hlt)
      have htk := latest_snoc t (ss.take k) ss[k]
      rw [← List.take_succ_eq_append_getElem hlt] at htk
      have hcur : latest t (ss.take k) ≤ 1099511627775 + t := latest_le t _ (fun s hs => hle s (List.mem_of_mem_take hs))
      clear hcs hx
      generalize ss[k] = s at *
      generalize latest t (ss.take k) = cur at *
      by_cases hcmp : cur < s + t
      · have hcmp' : (cur : Int) < (s : Int) + (t : Int) := by omega
        have HT := Lib.hid (show latest t (ss.take (k + 1)) = s + t by rw [htk]; omega)
        clear htk hcmp
        go_wp2
        go_quiet (fail)
        go_wp2
        go_quiet (fail)
        go_wp2
        exact ⟨⟨k + 1, by omega, by go_num, by rw [HT.out, Int.natCast_add], _, rfl⟩, by simp [intOf]; omega⟩
      · have hcmp' : (s : Int) + (t : Int) ≤ (cur : Int) := by omega
        have HT := Lib.hid (show latest t (ss.take (k + 1)) = cur by rw [htk]; omega)
        clear htk hcmp
        go_wp2
        go_quiet (fail)
        go_wp2
        exact ⟨⟨k + 1, by omega, by go_num, by rw [HT.out], _, rfl⟩, by simp [intOf]; omega⟩
    · obtain rfl : k = ss.length := by omega
      rw [List.take_of_length_le (Nat.le_refl _)]
      go_wp2
      go_ret
      exact ⟨rfl, nd, rfl⟩

theorem rLive_any (B : Nat) (w : World) (b t : Nat) (v : Value) (ss : List Nat) (h : RLeaseAt B w b t v ss) (now : Nat) : Calls Try.prog 16 #[.pointer (some ⟨b, 0, none⟩), .int .u64 now] w
    fun e w' => e = .returned (.bool (decide (now < latest t ss ∧ now ≤ 1099511627775))) ∧ ∃ n, w' = w.drewN n := by
  by_cases h2 : now ≤ 1099511627775
  · have h2' : (now : Int) ≤ 1099511627775 := by omega
    have hu := rUntil_any B w b t v ss h
    obtain ⟨u, hu2⟩ : ∃ u, latest t ss = u := ⟨_, rfl⟩
    rw [hu2] at hu ⊢
    by_cases h1 : now < u
    · have h1' : (now : Int) < (u : Int) := by omega
      rw [decide_eq_true (show now < u ∧ now ≤ 1099511627775 from ⟨h1, h2⟩)]
      clear hu2 h1
      go_enter Try.func16, Try.ntmps16
      go_wp2_with (go_at_call 24; refine hu.mono ?_; rintro e w2 ⟨rfl, nd, rfl⟩)
      go_ret
      exact ⟨rfl, nd, rfl⟩
    · have h1' : (u : Int) ≤ (now : Int) := by omega
      rw [decide_eq_false (show ¬ (now < u ∧ now ≤ 1099511627775) from fun h => h1 h.1)]
      have hdec : decide (now < u) = false := decide_eq_false h1
      clear hu2 h1
      go_enter Try.func16, Try.ntmps16
      go_wp2_with (go_at_call 24; refine hu.mono ?_; rintro e w2 ⟨rfl, nd, rfl⟩)
      go_ret
      exact ⟨rfl, nd, rfl⟩
  · have h2' : (1099511627775 : Int) < (now : Int) := by omega
    rw [decide_eq_false (show ¬ (now < latest t ss ∧ now ≤ 1099511627775) from fun h => h2 h.2)]
    go_enter Try.func16, Try.ntmps16
    go_wp2
    go_ret
    exact ⟨rfl, 0, rfl⟩
end Go.Proofs.Ytnlcnhanhompnaa
