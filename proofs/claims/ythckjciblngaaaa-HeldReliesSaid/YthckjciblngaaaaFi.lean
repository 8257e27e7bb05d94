/- slices.SortedFunc over the keys, and Files: walked. -/
import Derived.Test.YthckjciblngaaaaFh
import Derived.Test.YthckjciblngaaaaShelf
import Derived.Test.YthckjciblngaaaaSrt
namespace Go.Proofs.Ythckjciblngaaaa
open Go.RowKit Go.Tn Go.Maps Go.Sort Go.Shelf

theorem ltF_iff (a b : Fi) : ltOf cmpF a b = true ↔ a.1 < b.1 ∨ a.1 = b.1 ∧ a.2 < b.2 := by
  unfold ltOf cmpF cmpI
  rw [decide_eq_true_iff]
  by_cases h1 : a.1 < b.1
  · simp [h1]
  · by_cases h2 : b.1 < a.1
    · simp [h1, h2]; omega
    · have h3 : a.1 = b.1 := by omega
      simp [h3]
      by_cases h4 : a.2 < b.2
      · simp [h4]
      · by_cases h5 : b.2 < a.2 <;> simp [h4, h5]
theorem ltF_no (a b : Fi) : ltOf cmpF a b = false ↔ ¬ (a.1 < b.1 ∨ a.1 = b.1 ∧ a.2 < b.2) := by
  rw [← ltF_iff]
  simp
theorem swoF : SWO (ltOf cmpF) where
  irrefl x := by rw [ltF_no]; omega
  trans x y z h1 h2 := by rw [ltF_iff] at *; omega
  ntrans x y z h1 h2 := by rw [ltF_no] at *; omega
theorem totF (x y : Fi) (h1 : ltOf cmpF x y = false) (h2 : ltOf cmpF y x = false) : x = y := by
  rw [ltF_no] at h1 h2
  exact Prod.ext (by omega) (by omega)

/-- Files in their order. -/
def leF (x y : Fi) : Bool := !(ltOf cmpF) y x
def sortF (l : List Fi) : List Fi := l.mergeSort leF

theorem sort_call (w : World) (B : Nat) (v : Value) (xs : List Fi) (h : LOut enF 2 39 B w v xs) (hl : xs.length ≤ 1000) : Calls Try.prog 62 #[v, .func (.func 45) #[] #[]] w
    fun e w' => e = .returned (.tuple #[]) ∧ LRd enF 2 B w' v (sortF xs) ∧ Below B w w' := by
  rcases h.own.2 with ⟨hv, h0⟩ | ⟨g, cap, cur, hv, _, hg, hn, hm, hs, ht⟩
  · have hx : xs = [] := List.eq_nil_of_length_eq_zero h0
    subst hx
    subst hv
    have hc : Calls Try.prog 62 #[.slice none 0 0, .func (.func 45) #[] #[]] w _ := AnyF.slices_SortFunc_none Try.sortF none 0 (.func (.func 45) #[] #[]) w
    refine hc.mono ?_
    rintro e w' ⟨rfl, rfl⟩
    exact ⟨rfl, ⟨by rw [show sortF [] = [] from List.mergeSort_nil]; exact LSl.nil _, h.lo, fun r hr => by cases hr⟩, Below.refl _ _⟩
  · subst hv
    have hH := holdsK_of_own elF.len elF.pos h
    have hgl := lt_of_block hg
    have hsz : xs.toArray.size = xs.length := by simp
    have hcon := AnyQ.slices_SortFunc_total Try.sortF 2 (fun w => by kernel_rfl) (fun w => by kernel_rfl) enF elF.len elF.one cmpF swoF 45 #[] g 0 cap xs.toArray w (enters_of Try.func45 (by kernel_rfl) rfl) (fun m os dk hs x y => order_any _ x y) hH hgl (by rw [hsz]; omega) totF
    rw [hsz] at hcon
    change Calls Try.prog 62 _ _ _ at hcon
    refine hcon.mono ?_
    rintro e w' ⟨rfl, n, os, rfl⟩
    have hso : (xs.toArray.toList.mergeSort fun x y => !(ltOf cmpF) y x) = sortF xs := rfl
    rw [hso]
    have hlen : (sortF xs).length = xs.length := List.length_mergeSort _
    have hgr := grownBy_sortK (en := enF) (k := 2) (w := w) (g := g) (n := n) (os := os) (sortF xs).toArray
    have hH2 := holdsK_sortWorldK enF 2 w g 0 n xs.toArray (sortF xs).toArray os hgl hH (by simp [hlen])
    have hsl := lsl_of_holdsK elF.len hH2 (by rw [hlen]; exact hn) hm (Nat.lt_of_lt_of_le hgl hgr.size)
    rw [hlen] at hsl
    exact ⟨rfl, ⟨hsl, h.lo, fun r hr => by cases hr; exact Nat.lt_of_lt_of_le hgl hgr.size⟩, (Below.refl B w).grown hgr h.le h.lo⟩

theorem sortedFunc_call (w : World) (m clk : Nat) (L : Ents Fi) (hb : w.heap[m]? = some (.map (ents encF L) clk)) (hwf : WF L clk) (hl : L.length ≤ 1000) :
    Calls Try.prog 43 #[.func (.func 63) #[] #[.pointer (some ⟨w.heap.size, 0, none⟩)], .func (.func 45) #[] #[]] (w.alloc (.cells #[.map (some m)] 52))
      fun e w' => ∃ v, e = .returned v ∧ (∃ ss : List Fi, ss.Perm (L.map (·.1)) ∧ LRd enF 2 w.heap.size w' v (sortF ss)) ∧ Below w.heap.size w w' := by
  obtain ⟨w1, hw1⟩ : ∃ w1, w.alloc (.cells #[.map (some m)] 52) = w1 := ⟨_, rfl⟩
  have hal : Below w.heap.size w w1 := by rw [← hw1]; exact (Below.refl _ w).alloc (Nat.le_refl _) _
  have hs1 : w1.heap.size = w.heap.size + 1 := by rw [← hw1]; simp
  have hm1 : w1.cell? ⟨w.heap.size, 0, none⟩ = some (.map (some m)) := by rw [← hw1]; exact cell_of heap_alloc_at rfl
  have hb1 := (hal.block m (lt_of_block hb)).trans hb
  have hseq := keys_gives 2 (by decide) w.heap.size m clk L hwf w1 (by omega) hm1 hb1
  have hcol := (callsIn_wide (n := 4)).1 (collect_in 4 (by decide) 63 _ (enters_of Try.func63 (by kernel_rfl) rfl) _ L.length hl w1 hseq)
  rw [hw1]
  clear hw1
  go_enter Try.func43, Try.ntmps43
  go_wp2_with fail
  refine hcol.mono ?_
  rintro e w2 ⟨v, ss, rfl, hp, hO, hb2⟩
  have hlen : ss.length ≤ 1000 := by rw [hp.length_eq, List.length_map]; exact hl
  go_wp2_with fail
  refine (sort_call _ _ v ss hO hlen).mono ?_
  rintro e w3 ⟨rfl, hR, hb3⟩
  go_wp2
  go_ret
  exact ⟨v, rfl, ⟨ss, hp, hR.mono (by omega)⟩, hal.trans ((hb2.trans hb3).mono (by omega))⟩

/-- In order, each once. -/
abbrev Srt (l : List Fi) : Prop := l.Pairwise fun a b => ltOf cmpF a b = true
theorem srt_nodup {l : List Fi} (h : Srt l) : l.Nodup := h.imp fun {a b} hab e => by
  subst e
  rw [swoF.irrefl] at hab
  cases hab
theorem srt_uniq {l l' : List Fi} (h : Srt l) (h' : Srt l') (he : ∀ f, f ∈ l ↔ f ∈ l') : l = l' := by
  refine List.Perm.eq_of_pairwise (le := fun a b => ltOf cmpF a b = true) (fun a b _ _ h1 h2 => ?_) h h' ((List.perm_ext_iff_of_nodup (srt_nodup h) (srt_nodup h')).2 he)
  rw [ltF_iff] at h1 h2
  omega
theorem sortF_srt {L : Ents Fi} {clk : Nat} (hwf : WF L clk) {ss : List Fi} (hp : ss.Perm (L.map (·.1))) : Srt (sortF ss) ∧ (∀ f, f ∈ sortF ss ↔ Go.Tn.get f L ≠ none) ∧ (sortF ss).length = L.length := by
  have hperm : (sortF ss).Perm (L.map (·.1)) := (List.mergeSort_perm _ _).trans hp
  have hnd : (sortF ss).Nodup := hperm.nodup_iff.2 (keys_nodup hwf)
  have hso : (sortF ss).Pairwise (fun a b => leF a b = true) := List.pairwise_mergeSort (fun a b c h1 h2 => by
    unfold leF at *
    simp only [Bool.not_eq_true', ltF_no] at *
    omega) (fun a b => by
    unfold leF
    simp only [Bool.or_eq_true, Bool.not_eq_true', ltF_no]
    omega) _
  refine ⟨?_, fun f => ?_, by rw [hperm.length_eq, List.length_map]⟩
  · refine (hso.and hnd).imp fun {a b} hab => ?_
    obtain ⟨h1, h2⟩ := hab
    unfold leF at h1
    rw [Bool.not_eq_true', ltF_no] at h1
    rw [ltF_iff]
    have : ¬ (a.1 = b.1 ∧ a.2 = b.2) := fun ⟨e1, e2⟩ => h2 (Prod.ext e1 e2)
    omega
  · rw [hperm.mem_iff, List.mem_map]
    rw [ne_eq, get_none]
    exact ⟨fun ⟨e, he, hf⟩ hall => hall e he hf, fun hn => Decidable.byContradiction fun hx => hn fun e he hf => hx ⟨e, he, hf⟩⟩
end Go.Proofs.Ythckjciblngaaaa
