import Derived.Test.YtbdjkbaieokbhaaWc
namespace Go.Proofs.Ytbdjkbaieokbhaa
open Go.RowKit Go.Tn Go.Tn.Ghost

set_option maxHeartbeats 1000000 in
theorem settle_any (w : World) (b bf : Nat) (F : List Int) (m1 m2 : Value) (hb : w.heap[b]? = some (.cells #[.slice (some ⟨bf, 0, none⟩) F.length F.length, m1, m2] 45 (0, 0)))
    (hf : w.heap[bf]? = some (.cells (F.map zv).toArray 3 (0, 0))) (hne : b ≠ bf) (v : Value) (xs : List Nat) (hv : Own1 w 3 v (xs.map iv)) (hvf : ∀ r, v.ownBlock = some r → r ≠ bf) (hx : ∀ x ∈ xs, x < F.length) (s : Int) :
    Calls Try.prog 35 #[.pointer (some ⟨b, 0, none⟩), v, .int .i64 s] w fun e w' => e = .returned (.tuple #[]) ∧ w'.heap[bf]? = some (.cells ((setAll F xs s).map zv).toArray 3 (0, 0)) ∧ Mod (fun x => x = bf) w w' := by
  rcases hv.form with ⟨rfl, h0⟩ | ⟨g, cap, cur, rfl, hle, hcm, hg, hcs, hcur⟩
  · have hx0 : xs = [] := by simpa using h0
    subst hx0
    go_enter Try.func35, Try.ntmps35
    go_wp2
    go_loopw [10] (fun k wr => k = .int .i64 0 ∧ wr = w) (fun _ _ => 0)
    case atStart => exact ⟨rfl, rfl⟩
    case round =>
      obtain ⟨rfl, rfl⟩ := hrel
      go_wp2
      go_end0
      exact ⟨rfl, hf, Mod.refl _ _⟩
  · have hgf : g ≠ bf := hvf g rfl
    simp only [List.length_map] at hle
    unfold maxLen at hcm
    rw [List.length_map]
    go_enter Try.func35, Try.ntmps35
    go_wp2
    go_loopw [7, 10] (fun _ k wr => ∃ j : Nat, j ≤ xs.length ∧ k = .int .i64 j ∧ wr.heap[bf]? = some (.cells ((setAll F (xs.take j) s).map zv).toArray 3 (0, 0)) ∧ Mod (fun x => x = bf) w wr) (fun _ k _ => xs.length - (intOf k).toNat)
    case atStart => exact ⟨0, Nat.zero_le _, rfl, by simpa [setAll] using hf, Mod.refl _ _⟩
    case round =>
      obtain ⟨j, hj, rfl, hfr, hmod⟩ := hrel
      by_cases hlt : j < xs.length
      · have c0 : wr.cell? ⟨b, 0, none⟩ = some (.slice (some ⟨bf, 0, none⟩) F.length F.length) := cell_of (hmod.heap hb hne) rfl
        have c1 : wr.cell? ⟨g, j, none⟩ = some (.int .i64 xs[j]) := cell_of (hmod.heap hg hgf) (hcur j _ (by simp [hlt]))
        have hxl := hx xs[j] (List.getElem_mem hlt)
        have hlen := setAll_length s (xs.take j) F
        have hsn := setAll_snoc s (xs.take j) F xs[j]
        have htk : xs.take (j + 1) = xs.take j ++ [xs[j]] := by rw [List.take_succ_eq_append_getElem hlt]
        have HT := Lib.hid (htk ▸ hsn)
        clear hsn htk hx
        generalize xs[j] = x at *
        obtain ⟨old, hold⟩ : ∃ old, wr.cell? ⟨bf, x, none⟩ = some (.int .i64 old) := by
          refine ⟨(setAll F (xs.take j) s)[x]'(by omega), cell_of hfr ?_⟩
          simp [show x < (setAll F (xs.take j) s).length by omega]
        have hfree : wr.frozen? ⟨bf, x, none⟩ = false := free_of hfr
        have hnew := heap_setCell_at (o := x) (v := zv s) hfr
        have hmod' := hmod.setCell ⟨bf, x, none⟩ (zv s) (fun _ => rfl)
        have hxi : (x : Int) < (F.length : Int) := by omega
        have HN := Lib.hid hnew
        clear hfr hnew hmod hlen
        go_wp2
        go_roundw
        case rel =>
          refine ⟨j + 1, by omega, by go_num, ?_, hmod'⟩
          have := HN.out
          rw [HT.out]
          rw [this]
          congr 2
          simp
        case measure => simp [intOf]; omega
      · have hj' : j = xs.length := by omega
        subst hj'
        go_wp2
        go_end0
        exact ⟨rfl, by simpa using hfr, hmod⟩
end Go.Proofs.Ytbdjkbaieokbhaa
