/- Split of a path into its names, by the program. -/
import Derived.Test.YtapmjchlkaicpaaDoorWb
namespace Go.Proofs.YtapmjchlkaicpaaDoor
open Go.RowKit Go.Tn Go.Tn.Names

def slash : ByteArray := ⟨#[47]⟩
/-- The pieces that the library makes. -/
def pieces (s : ByteArray) : List ByteArray := Lib.splitB slash 0 (Lib.countB s slash) s
theorem pieces_texts (s : ByteArray) : texts (pieces s) = parts (bs s) := by
  have h := Lib.splitB_data slash 0 (Lib.countB s slash) s
  exact h.trans (split_parts (bs s))
theorem pieces_len (s : ByteArray) : (pieces s).length = Lib.countB s slash + 1 := Lib.splitB_all slash (by decide) 0 _ s rfl
theorem pieces_ne (s : ByteArray) : ∃ x r, pieces s = x :: r := by
  cases h : pieces s with
  | nil => have := pieces_len s; rw [h] at this; simp at this
  | cons x r => exact ⟨x, r, rfl⟩

def splitOk (s : ByteArray) (er : Int) (xs : List ByteArray) : Prop := (splitP (bs s) = some (texts xs) ∧ er = 0) ∨ (splitP (bs s) = none ∧ xs = [] ∧ er = 9)
theorem nil_sl (w : World) : TextSl w (.slice none 0 0) [] := ⟨none, 0, rfl, Nat.le_refl _, Nat.zero_le _, fun h => absurd h (Nat.lt_irrefl _)⟩

/-- How the pieces tell what a path is. -/
theorem split_ways (s x : ByteArray) (r : List ByteArray) (hp : pieces s = x :: r) (h1 : ¬ bs s = [47]) :
    (bs x = [] ∧ 1 ≤ r.length ∧ splitP (bs s) = (if r.length ≤ 8 ∧ (texts r).all isName = true then some (texts r) else none)) ∨
    (splitP (bs s) = none ∧ ((bs x = [] ∧ r = []) ∨ bs x ≠ [])) := by
  have ht := pieces_texts s
  rw [hp] at ht
  simp only [texts, List.map_cons] at ht
  cases hs : bs s with
  | nil =>
    rw [hs] at ht
    simp only [parts, List.cons.injEq, List.map_eq_nil_iff] at ht
    exact .inr ⟨rfl, .inl ht⟩
  | cons c t =>
    rw [hs] at ht
    by_cases hc : c = 47
    · subst hc
      have hne : t ≠ [] := fun e => h1 (by rw [hs, e])
      rw [parts, if_pos rfl] at ht
      simp only [List.cons.injEq] at ht
      have hl : r.length = (parts t).length := by rw [← ht.2]; simp
      refine .inl ⟨ht.1, ?_, ?_⟩
      · cases hr : r with
        | nil => rw [hr] at hl; exact absurd (List.eq_nil_of_length_eq_zero hl.symm) (parts_ne t)
        | cons => simp
      · simp only [splitP, if_neg hne]
        have : texts r = parts t := ht.2
        rw [hl, this]
    · refine .inr ⟨?_, .inr ?_⟩
      · unfold splitP
        split
        · rename_i h
          simp only [List.cons.injEq] at h
          exact absurd h.1 hc
        · rfl
      · intro e
        rw [e] at ht
        have : ∃ y ys, parts (c :: t) = (c :: y) :: ys := by
          rw [parts, if_neg hc]
          split
          · exact ⟨_, _, rfl⟩
          · exact ⟨_, _, rfl⟩
        obtain ⟨y, ys, hy⟩ := this
        rw [hy] at ht
        simp at ht

set_option maxHeartbeats 2000000 in
set_option maxRecDepth 20000 in
theorem split_any (w : World) (s : ByteArray) (m : Int) (hs : s.size ≤ 1000) (hm : w.cell? ⟨0, 0, none⟩ = some (.int .i64 m)) : Calls Tryd.prog 7 #[.string s] w
    fun e w' => (∃ v er xs, e = .returned (.tuple #[v, .int .i64 er]) ∧ TextSl w' v xs ∧ splitOk s er xs) ∧ Below w.heap.size w w' := by
  by_cases h1 : bs s = [47]
  · have t1 : (s.toList == [47]) = true := by rw [bs_eq, h1]; rfl
    have hO := Lib.hid (show splitOk s 0 [] from .inl ⟨by rw [h1]; rfl, rfl⟩)
    clear h1
    go_enter Tryd.func7, Tryd.ntmps7
    go_wp2
    go_ret2
    exact ⟨⟨_, _, _, rfl, nil_sl w, hO.out⟩, Below.refl _ _⟩
  · have t1 : (s.toList == [47]) = false := by rw [bs_eq]; simpa using h1
    have hsp := Tryd.strings_Split s slash m w (by omega) hm (by decide)
    obtain ⟨x, r, hp⟩ := pieces_ne s
    have hlen := pieces_len s
    have hways := split_ways s x r hp h1
    have hcells : (Lib.splitB slash 0 (Lib.countB s slash) s).map Value.string = (pieces s).map Value.string := rfl
    rw [hcells, ← hlen, hp] at hsp
    have hcnt := Lib.countB_le slash (by decide) s.size s (Nat.le_refl _)
    have hr : r.length ≤ 1000 := by rw [hp] at hlen; simp at hlen; omega
    clear hp hlen hcells hcnt h1
    simp only [List.length_cons] at hsp
    have hW := Lib.hid hways
    go_enter Tryd.func7, Tryd.ntmps7
    go_wp2_with fail
    refine hsp.mono ?_
    rintro e w1 ⟨rfl, hw1⟩
    have hblk : w1.heap[w.heap.size]? = some (.cells ((x :: r).map Value.string).toArray 9 (0, 0)) := by rw [hw1]; exact heap_alloc_at
    have hb1 : Below w.heap.size w w1 := by rw [hw1]; exact (Below.refl _ _).alloc (Nat.le_refl _) _
    clear hw1 hsp
    have hc0 : w1.cell? ⟨w.heap.size, 0, none⟩ = some (.string x) := cell_of hblk (by simp)
    have hsl : TextSl w1 (.slice (some ⟨w.heap.size, 1, none⟩) r.length r.length) r := ⟨_, _, rfl, Nat.le_refl _, by unfold maxLen; omega, fun _ => ⟨_, _, rfl, lt_of_block hblk, fun i y hi => by
      refine cell_of hblk ?_
      rw [Nat.add_comm 1 i]
      simp [hi]⟩⟩
    clear hblk
    rcases hways with ⟨hx, hr1, hS⟩ | ⟨hS, hx⟩
    · have tx : (x.toList == []) = true := by rw [bs_eq, hx]; rfl
      have hr1' : (1 : Int) ≤ (r.length : Int) := by omega
      have hr0 : ¬ r.length = 0 := by omega
      by_cases h8 : r.length ≤ 8
      · have h8' : (r.length : Int) ≤ 8 := by omega
        have hcf := containsFunc_any w1 _ r hsl
        cases hn : (texts r).all isName with
        | true =>
          have hO := Lib.hid (show splitOk s 0 r from .inl ⟨by rw [hS, if_pos ⟨h8, hn⟩], rfl⟩)
          rw [hn] at hcf
          simp only [Bool.not_true] at hcf
          clear hS hx hW hn
          go_wp2_with fail
          refine hcf.mono ?_
          rintro e w2 ⟨rfl, hb2⟩
          go_wp2
          go_ret2
          exact ⟨⟨_, _, _, rfl, hsl.below hb2, hO.out⟩, hb1.trans (hb2.mono hb1.size)⟩
        | false =>
          have hO := Lib.hid (show splitOk s 9 [] from .inr ⟨by rw [hS, if_neg (fun h => by rw [hn] at h; cases h.2)], rfl, rfl⟩)
          rw [hn] at hcf
          simp only [Bool.not_false] at hcf
          clear hS hx hW hn
          go_wp2_with fail
          refine hcf.mono ?_
          rintro e w2 ⟨rfl, hb2⟩
          go_wp2
          go_ret2
          exact ⟨⟨_, _, _, rfl, nil_sl _, hO.out⟩, hb1.trans (hb2.mono hb1.size)⟩
      · have h8' : (8 : Int) < (r.length : Int) := by omega
        have hO := Lib.hid (show splitOk s 9 [] from .inr ⟨by rw [hS, if_neg (fun h => h8 h.1)], rfl, rfl⟩)
        clear hS hx hW h8
        go_wp2
        go_ret2
        exact ⟨⟨_, _, _, rfl, nil_sl _, hO.out⟩, hb1⟩
    · have hO := Lib.hid (show splitOk s 9 [] from .inr ⟨hS, rfl, rfl⟩)
      clear hS hW
      rcases hx with ⟨hx, rfl⟩ | hx
      · have tx : (x.toList == []) = true := by rw [bs_eq, hx]; rfl
        clear hx
        go_wp2
        go_ret2
        exact ⟨⟨_, _, _, rfl, nil_sl _, hO.out⟩, hb1⟩
      · have tx : (x.toList == []) = false := by rw [bs_eq]; simpa using hx
        clear hx
        go_wp2
        go_ret2
        exact ⟨⟨_, _, _, rfl, nil_sl _, hO.out⟩, hb1⟩
end Go.Proofs.YtapmjchlkaicpaaDoor
