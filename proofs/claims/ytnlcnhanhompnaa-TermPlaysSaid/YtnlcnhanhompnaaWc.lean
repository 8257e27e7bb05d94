/- The keys of a map of numbers, sorted, by the library. -/
import Derived.Test.YtnlcnhanhompnaaWb
import Derived.Test.YtnlcnhanhompnaaShelf
namespace Go.Proofs.Ytnlcnhanhompnaa
open Go.RowKit Go.Tn Go.Maps Go.Sort Go.Shelf

theorem sortsA (m : Nat) : AnyZI.SortsIn Try.prog Try.sortedA_ren Fence.wide m :=
  ⟨fun blk off cap ss W hH hblk hsz => callsIn_wide.2 (Try.slices_Sort_int blk off cap ss W hH hblk hsz),
   fun p cap W => callsIn_wide.2 (Try.slices_Sort_int_none p cap W)⟩

theorem keys_call (W : World) (m : Nat) : Calls Try.prog 29 #[.map (some m)] W
    fun e w' => e = .returned (.func (.func 32) #[] #[.pointer (some ⟨W.heap.size, 0, none⟩)]) ∧ w' = W.alloc (.cells #[.map (some m)] 62) :=
  (callsIn_wide (n := 5)).1 (AnyZI.keys_in Try.keysA Fence.wide 5 trivial rfl (some m) W)

theorem sorted_call (w : World) (m clk : Nat) (L : Ents Int) (hb : w.heap[m]? = some (.map (ents encI L) clk)) (hwf : WF L clk) (hk : ∀ e ∈ L, (Lit.int .i64 e.1).wf = true) (hl : L.length ≤ 1000) :
    Calls Try.prog 28 #[.func (.func 32) #[] #[.pointer (some ⟨w.heap.size, 0, none⟩)]] (w.alloc (.cells #[.map (some m)] 62))
      fun e w' => ∃ v, e = .returned v ∧ w'.ownsRow w.heap.size 3 1 v L.length (((L.map (·.1)).mergeSort leI).map encZ) ∧ Below w.heap.size w w' := by
  obtain ⟨D0, hown, hperm, hsz⟩ := owns_ents Try.underlying3 hb hwf hk hl
  have hbl : m < w.heap.size := lt_of_block hb
  have hal : Below w.heap.size w (w.alloc (.cells #[.map (some m)] 62)) := (Below.refl _ w).alloc (Nat.le_refl _) _
  have hmax : Maps.size D0 ≤ maxLen := by rw [hsz]; unfold maxLen; omega
  have hbytes : Maps.size D0 * 8 ≤ 140737488355328 := by rw [hsz]; omega
  have hseq : SeqGives Fence.wide 2 Try.prog 32 #[.pointer (some ⟨w.heap.size, 0, none⟩)] encZ (fun ss => ss.Perm (intKeys D0)) (Maps.size D0) (w.alloc (.cells #[.map (some m)] 62)) :=
    AnyZI.keys_gives (ρ := Try.keysA_ren) { Try.keysA with } Fence.wide _ trivial rfl (by omega) w.heap.size m L.length D0 _ (by simp) (by simp) (by
      obtain ⟨es, clock, hb, Ft, hs, hD⟩ := hown
      exact ⟨es, clock, (Below.heap_alloc _ _ m hbl).trans hb, Ft, hs, hD⟩)
  have cS := AnyZI.sorted_in Try.sortedA Fence.wide 5 trivial trivial trivial trivial rfl (by omega) (sortsA _) (enters_of Try.func31 (by kernel_rfl) rfl) 32 #[.pointer (some ⟨w.heap.size, 0, none⟩)] trivial (enters_of Try.func32 (by kernel_rfl) rfl) _ _ hmax hbytes _ hseq
  change CallsIn _ _ Try.prog 28 _ _ _ at cS
  refine ((callsIn_wide (n := 5)).1 cS).mono ?_
  rintro e w' ⟨v, ss, rfl, hS, hrow, _, hbl2⟩
  have hp2 : ss.Perm (L.map (·.1)) := hS.trans hperm
  have hlen : ss.length = L.length := by rw [hp2.length_eq, List.length_map]
  refine ⟨v, rfl, ?_, hal.trans (hbl2.mono (by simp))⟩
  rw [← mergeSort_of_perm_i hp2, ← hlen]
  exact ownsRow_base_a hrow (by simp)
end Go.Proofs.Ytnlcnhanhompnaa
