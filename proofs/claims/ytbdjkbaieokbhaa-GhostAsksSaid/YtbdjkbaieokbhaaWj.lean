import Derived.Test.YtbdjkbaieokbhaaWi
namespace Go.Proofs.Ytbdjkbaieokbhaa
open Go.RowKit Go.Tn Go.Tn.Ghost

/-- A slice of n events. -/
def EvSl (w : World) (v : Value) (n : Nat) (E : Nat → Evt) : Prop :=
  ∃ ao cap, v = .slice ao n cap ∧ (0 < n → ∃ b off, ao = some ⟨b, off, none⟩ ∧ b < w.heap.size ∧ EvIn w b off n E)

theorem EvIn.lt {w : World} {b off n : Nat} {E : Nat → Evt} (h : EvIn w b off n E) (hn : 0 < n) : b < w.heap.size := World.block_lt_of_cell? w _ (h.cell0 hn)

theorem own_nil {p : Pl} {r : Nat} (h : (getD p ([] : Ents Pl) nilS).ownBlock = some r) : False := by
  have e : getD p ([] : Ents Pl) nilS = nilS := rfl
  rw [e] at h; cases h

theorem Book.start {w : World} (n : Nat) (b bf bo bl : Nat) (hb : w.heap[b]? = some (.cells #[.slice (some ⟨bf, 0, none⟩) n n, .map (some bo), .map (some bl)] 45 (0, 0)))
    (hf : w.heap[bf]? = some (.cells (List.replicate n (.int .i64 0)).toArray 3 (0, 0))) (ho : w.heap[bo]? = some (.map #[] 0)) (hl : w.heap[bl]? = some (.map #[] 0)) (hne : bo ≠ bl) (hbf : b ≠ bf) {B : Nat} (hB : B ≤ b ∧ B ≤ bf ∧ B ≤ bo ∧ B ≤ bl) :
    Book B w b (St.zero n) bf bo bl [] 0 [] 0 := by
  have gm : ∀ m, w.heap[m]? = some (.map #[] 0) → GM w m [] 0 (fun _ => []) := fun m hm =>
    ⟨by rw [hm]; rfl, WF.nil 0, fun p => by simp [getD, Go.Tn.get, look]; exact World.ownsRow_nil _ _ _ _, fun p q _ r h => (own_nil h).elim⟩
  refine ⟨by simpa [St.zero] using hb, by simpa [St.zero] using hf, gm bo ho, gm bl hl, hbf, hne, fun p r h => (own_nil h).elim, fun p r h => (own_nil h).elim, hB, fun p x h => by simp [St.zero] at h, fun p x h => by simp [St.zero] at h⟩

set_option maxHeartbeats 1000000 in
theorem read_any (w : World) (v : Value) (n : Nat) (E : Nat → Evt) (hE : EvSl w v n E) (hn : n ≤ 60) :
    Calls Try.prog 14 #[v] w fun en w' => ∃ b bf, en = .returned (.pointer (some ⟨b, 0, none⟩)) ∧ w.heap.size ≤ bf ∧
      (∃ S bo bl Lo co Ll cl, Go.Tn.Ghost.Reach E n n S ∧ Book w.heap.size w' b S bf bo bl Lo co Ll cl) ∧ Below w.heap.size w w' := by
  obtain ⟨ao, cap, rfl, hE⟩ := hE
  obtain ⟨i0, hi0, hz0, hz1, hz2⟩ := info_parts info3
  have hmm := @run_makeMap Try.prog
  have hmaxn : n ≤ maxLen := by unfold maxLen; omega
  have hby : i0.bytes * n ≤ 281474976710656 := by rw [hz2]; omega
  go_enter Try.func14, Try.ntmps14
  go_wp2_with (first
    | ((with_reducible refine wpList_exec rfl (exec_make1 Try.underlying23 hi0 hz0 hz1 rfl hby hmaxn ?_ ?_) ?_); rfl; rfl)
    | fail)
  have hstart : Book w.heap.size ((((w.alloc (.cells (Array.replicate n (.int .i64 0)) 3)).alloc (.map #[] 0)).alloc (.map #[] 0)).alloc (.cells #[.slice (some ⟨w.heap.size, 0, none⟩) n n, .map (some (w.heap.size + 1)), .map (some (w.heap.size + 1 + 1))] 45))
      (w.heap.size + 1 + 1 + 1) (St.zero n) w.heap.size (w.heap.size + 1) (w.heap.size + 1 + 1) [] 0 [] 0 := by
    have e1 : (w.alloc (.cells (Array.replicate n (.int .i64 0)) 3)).heap.size = w.heap.size + 1 := by simp
    have e2 : ((w.alloc (.cells (Array.replicate n (.int .i64 0)) 3)).alloc (.map #[] 0)).heap.size = w.heap.size + 1 + 1 := by simp
    have e3 : (((w.alloc (.cells (Array.replicate n (.int .i64 0)) 3)).alloc (.map #[] 0)).alloc (.map #[] 0)).heap.size = w.heap.size + 1 + 1 + 1 := by simp
    refine Book.start n _ _ _ _ ?_ ?_ ?_ ?_ (by omega) (by omega) (by omega)
    · rw [← e3]; exact heap_alloc_at
    · refine (heap_alloc_lt (by simp; omega)).trans ((heap_alloc_lt (by simp; omega)).trans ((heap_alloc_lt (by simp)).trans ?_))
      rw [heap_alloc_at]; simp
    · refine (heap_alloc_lt (by simp)).trans ((heap_alloc_lt (by simp)).trans ?_)
      rw [← e1]; exact heap_alloc_at
    · refine (heap_alloc_lt (by simp)).trans ?_
      rw [← e2]; exact heap_alloc_at
  have hbel0 : Below w.heap.size w ((((w.alloc (.cells (Array.replicate n (.int .i64 0)) 3)).alloc (.map #[] 0)).alloc (.map #[] 0)).alloc (.cells #[.slice (some ⟨w.heap.size, 0, none⟩) n n, .map (some (w.heap.size + 1)), .map (some (w.heap.size + 1 + 1))] 45)) :=
    ((((Below.refl _ _).alloc (Nat.le_refl _) _).alloc (by simp) _).alloc (by simp; omega) _).alloc (by simp; omega) _
  generalize ((((w.alloc (.cells (Array.replicate n (.int .i64 0)) 3)).alloc (.map #[] 0)).alloc (.map #[] 0)).alloc (.cells #[.slice (some ⟨w.heap.size, 0, none⟩) n n, .map (some (w.heap.size + 1)), .map (some (w.heap.size + 1 + 1))] 45)) = w0 at *
  clear hmm hby hmaxn hi0 hz0 hz1 hz2
  go_loopw [4, 5, 15] (fun _ _ c wr => ∃ k : Nat, k ≤ n ∧ c = .int .i64 k ∧ (∃ S Lo co Ll cl, Go.Tn.Ghost.Reach E n k S ∧ Book w.heap.size wr (w.heap.size + 1 + 1 + 1) S w.heap.size (w.heap.size + 1) (w.heap.size + 1 + 1) Lo co Ll cl) ∧ Below w.heap.size w wr) (fun _ _ c _ => n - (intOf c).toNat)
  case atStart => exact ⟨0, Nat.zero_le _, rfl, ⟨_, _, _, _, _, rfl, hstart⟩, hbel0⟩
  case round =>
    obtain ⟨k, hk, rfl, ⟨S, Lo, co, Ll, cl, hR, hbk⟩, hbel⟩ := hrel
    by_cases hlt : k < n
    · obtain ⟨b', off, rfl, hb', hEv⟩ := hE (by omega)
      have hl1 := (hEv.below hbel hb') k hlt
      have hl2 : Lies (wr.alloc (.cells (evArr (E k)) 39)) wr.heap.size 0 (evArr (E k)) := lies_of heap_alloc_at
      have hbk2 := hbk.alloc (.cells (evArr (E k)) 39)
      have hsz := hbel.size
      have hbel2 := hbel.alloc hsz (.cells (evArr (E k)) 39)
      have hlen := reach_length hR
      have hcount := reach_count hR
      have hkn : (k : Int) < (n : Int) := by omega
      go_wp2_with (first
        | ((with_reducible refine wpList_loadA (agg39 (E k)) hl1 ?_ ?_); rfl)
        | ((with_reducible refine wpList_loadA (agg39 (E k)) hl2 ?_ ?_); rfl)
        | ((with_reducible refine wpList_storeA_new (agg39 (E k)) ?_ (evArr_one _) ?_ ?_ ?_); rfl; rfl; rfl)
        | fail)
      refine (take_any w.heap.size _ _ S _ _ _ Lo co Ll cl hbk2 k (E k) (by omega) (by omega) (fun p => by have := hcount p; omega) (by simp; omega)).mono ?_
      rintro en w3 ⟨rfl, ⟨S', Lo', co', Ll', cl', hst, hbk3⟩, hbel3⟩
      clear hl1 hl2
      go_wp2
      go_roundw
      case rel => exact ⟨k + 1, by omega, by go_num, ⟨S', Lo', co', Ll', cl', ⟨S, hR, hst⟩, hbk3⟩, hbel2.trans hbel3⟩
      case measure => simp [intOf]; omega
    · obtain rfl : k = n := by omega
      go_wp2
      go_ret
      exact ⟨_, _, rfl, Nat.le_refl _, ⟨S, _, _, Lo, co, Ll, cl, hR, hbk⟩, hbel⟩

set_option maxHeartbeats 1000000 in
theorem fates_any (w : World) (v : Value) (n : Nat) (E : Nat → Evt) (hE : EvSl w v n E) (hn : n ≤ 60) :
    Calls Try.prog 6 #[v] w fun en w' => ∃ bf, en = .returned (.slice (some ⟨bf, 0, none⟩) n n) ∧ w.heap.size ≤ bf ∧
      w'.heap[bf]? = some (.cells ((List.range n).map fun j => zv (fate E n j)).toArray 3 (0, 0)) ∧ Below w.heap.size w w' := by
  go_enter Try.func6, Try.ntmps6
  go_wp2_with fail
  refine (read_any w v n E hE hn).mono ?_
  rintro en w1 ⟨b, bf, rfl, hbf, ⟨S, bo, bl, Lo, co, Ll, cl, hR, hbk⟩, hbel⟩
  have c0 := hbk.cells.1
  have hlen := reach_length hR
  have hF := hbk.fts
  rw [reach_fates hR, List.map_map] at hF
  rw [hlen] at c0
  have HF := Lib.hid hF
  clear hlen hF hR
  go_wp2
  go_ret
  exact ⟨bf, rfl, hbf, HF.out, hbel⟩

end Go.Proofs.Ytbdjkbaieokbhaa
