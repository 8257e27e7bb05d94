/- Late: walked. -/
import Derived.Test.YtnlcnhanhompnaaWc
import Derived.Maps.RangeWalk
namespace Go.Proofs.Ytnlcnhanhompnaa
open Go.RowKit Go.Tn Go.Maps Go.Sort Go.Shelf

theorem infoI : (Try.prog.info? 3).map (fun i => (i.zero, i.size, i.bytes)) = some (some (.int .i64 0), 1, 8) := by kernel_rfl

/-- A list of numbers that can be read. -/
def IntSl (w : World) (v : Value) (xs : List Int) : Prop :=
  ∃ ao cap, v = .slice ao xs.length cap ∧ xs.length ≤ cap ∧ cap ≤ maxLen ∧ (0 < xs.length → ∃ b off, ao = some ⟨b, off, none⟩ ∧ b < w.heap.size ∧ ∀ (i : Nat) (x : Int), xs[i]? = some x → w.cell? ⟨b, off + i, none⟩ = some (.int .i64 x))
theorem IntSl.below {w w' : World} {v : Value} {xs : List Int} (h : IntSl w v xs) (hb : Below w.heap.size w w') : IntSl w' v xs := by
  obtain ⟨ao, cap, rfl, h1, h2, h3⟩ := h
  refine ⟨ao, cap, rfl, h1, h2, fun h0 => ?_⟩
  obtain ⟨b, off, rfl, hlt, hc⟩ := h3 h0
  exact ⟨b, off, rfl, Nat.lt_of_lt_of_le hlt hb.size, fun i x hi => by rw [hb.cell (p := ⟨b, off + i, none⟩) hlt]; exact hc i x hi⟩
theorem Own1.intSl {w : World} {v : Value} {xs : List Int} (h : Own1 w 3 v (xs.map encI)) : IntSl w v xs := by
  rcases h.form with ⟨rfl, h0⟩ | ⟨g, cap, cur, rfl, hle, hcm, hg, hcs, hcur⟩
  · have : xs = [] := by simpa using h0
    subst this
    exact ⟨none, 0, rfl, Nat.le_refl _, Nat.zero_le _, fun h => absurd h (Nat.lt_irrefl _)⟩
  · rw [List.length_map] at hle ⊢
    exact ⟨_, _, rfl, hle, hcm, fun _ => ⟨g, 0, rfl, lt_of_block hg, fun i x hi => by
      rw [Nat.zero_add]
      exact cell_of hg (hcur i _ (by simp [hi]))⟩⟩
/-- A list of numbers of one's own. -/
structure IntOuts (B : Nat) (w : World) (v : Value) (xs : List Int) : Prop where
  own : Own1 w 3 v (xs.map encI)
  lo : ∀ r, v.ownBlock = some r → B ≤ r
  le : B ≤ w.heap.size
theorem IntOuts.nil {B : Nat} {w : World} (h : B ≤ w.heap.size) : IntOuts B w (.slice none 0 0) [] :=
  ⟨⟨rfl, .inl ⟨rfl, rfl⟩⟩, (fun r hr => by cases hr), h⟩
theorem IntOuts.below {B : Nat} {w w' : World} {v : Value} {xs : List Int} (h : IntOuts B w v xs) (hb : Below w.heap.size w w') : IntOuts B w' v xs :=
  ⟨h.own.kept fun r hr => by
    rcases h.own.form with ⟨rfl, _⟩ | ⟨g, cap, cur, rfl, _, _, hg, _⟩
    · cases hr
    · cases hr
      exact hb.block g (lt_of_block hg), h.lo, Nat.le_trans h.le hb.size⟩
theorem wpList_appendI {ops : Array Oper} {rest : List Oper} {a : Act} {Q : Exit → Act → World → Prop} {B : Nat} {w : World} {v : Value} {xs : List Int} (h : IntOuts B w v xs) (x : Int) (hsz : xs.length ≤ 1000) {d : Nat} {ty : TypeId} {pos : String} {after : Array Edge} {s y : Operand}
    (hs : a.eval s = v) (hy : a.eval y = .slice (some ⟨w.heap.size, 0, none⟩) 1 1)
    (hk : ∀ v' w', IntOuts B w' v' (xs ++ [x]) → Below B w w' → wpList Try.prog ops Q rest (a.put (some d) v') w') :
    wpList Try.prog ops Q ({ dst := some d, op := .call { callee := .builtin .append, args := #[s, y], argTypes := #[22, 22] }, type := ty, pos := pos, after := after, guard := none } :: rest) a (w.alloc (.cells #[.int .i64 x] 3)) := by
  obtain ⟨i, hi, hz0, hz1, hz2⟩ := info_parts infoI
  have hal : Below B w (w.alloc (.cells #[.int .i64 x] 3)) := (Below.refl _ _).alloc h.le _
  have hO := h.below (w' := w.alloc (.cells #[.int .i64 x] 3)) ((Below.refl _ _).alloc (Nat.le_refl _) _)
  have hu : Own1 (w.alloc (.cells #[.int .i64 x] 3)) 3 (.slice (some ⟨w.heap.size, 0, none⟩) 1 1) [.int .i64 x] := Own1.lit (xs := #[.int .i64 x]) (by unfold maxLen; simp)
  obtain ⟨v', w', hr, ho, hg, hl⟩ := exec_append1 (P := Try.prog) (w := w.alloc (.cells #[.int .i64 x] 3)) (ρ := a.eval) (dst := some d) (ty := ty) (pos := pos) (after := after) (gd := none) Try.underlying22 hi hz0 hz1 hz2 rfl hO.own hu (by simp [Value.oneCell']) (by unfold maxLen; simp; omega) (by simp; omega) hs hy
  refine wpList_exec rfl hr (hk v' w' ⟨?_, ?_, Nat.le_trans hO.le hg.size⟩ (hal.grown hg hO.le hO.lo))
  · rw [List.map_append]; exact ho
  · intro r hr
    rcases hl with hl | hl
    · exact hO.lo r (hl ▸ hr)
    · rw [hl] at hr
      cases hr
      exact hO.le

/-! ### Which clients -/
def keysH (H : Heard) : List Nat := (List.range 8).filter fun c => (H c).isSome
def isLate (H : Heard) (sp now c : Nat) : Bool := match H c with | some t => decide (t < now) && decide (sp < now - t) | none => false
def ints (l : List Nat) : List Int := l.map fun c : Nat => (c : Int)
/-- Who is late. -/
def lateH (H : Heard) (sp now : Nat) : List Nat := (keysH H).filter fun c => isLate H sp now c

theorem keys_sorted {w : World} {b m sp clk : Nat} {L : Ents Int} {H : Heard} (h : WatchAt w b m sp L clk H) : (L.map (·.1)).mergeSort leI = ints (keysH H) := by
  have hnd : (L.map (·.1)).Nodup := List.pairwise_map.2 (h.wf.keys.imp fun h => h)
  have hnd2 : (ints (keysH H)).Nodup := by
    refine List.pairwise_map.2 (((List.nodup_range (n := 8)).filter _).imp fun h e => h (Int.ofNat.inj e))
  have hp : (L.map (·.1)).Perm (ints (keysH H)) := by
    refine (List.perm_ext_iff_of_nodup hnd hnd2).2 fun k => ?_
    have hk : k ∈ L.map (·.1) ↔ get k L ≠ none := by
      rw [ne_eq, get_none, List.mem_map]
      constructor
      · rintro ⟨e, he, rfl⟩ hall
        exact hall e he rfl
      · intro hn
        by_cases hex : ∃ e ∈ L, e.1 = k
        · exact hex
        · exact absurd (fun e he hek => hex ⟨e, he, hek⟩) hn
    rw [hk, h.get, valOf]
    unfold ints keysH
    rw [List.mem_map]
    constructor
    · intro hn
      split at hn
      · rename_i hr
        refine ⟨k.toNat, List.mem_filter.2 ⟨List.mem_range.2 (by omega), ?_⟩, by omega⟩
        cases hH : H k.toNat with
        | none => rw [hH] at hn; exact absurd rfl hn
        | some t => rfl
      · exact absurd rfl hn
    · rintro ⟨c, hc, rfl⟩
      obtain ⟨h1, h2⟩ := List.mem_filter.1 hc
      have := List.mem_range.1 h1
      rw [if_pos (by omega), Int.toNat_natCast]
      cases hH : H c with
      | none => rw [hH] at h2; cases h2
      | some t => simp
  rw [mergeSort_of_perm_i hp]
  refine List.mergeSort_of_pairwise ?_
  refine List.pairwise_map.2 ?_
  have : (List.range 8).Pairwise (fun a b => a < b) := List.pairwise_lt_range
  exact (this.filter _).imp fun h => decide_eq_true (Int.ofNat_le.2 (Nat.le_of_lt h))
end Go.Proofs.Ytnlcnhanhompnaa
