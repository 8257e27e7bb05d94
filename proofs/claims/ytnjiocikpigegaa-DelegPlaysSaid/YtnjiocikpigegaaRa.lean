/- The document's table in memory: at, Mode walked. -/
import Derived.Test.YtnjiocikpigegaaDo
namespace Go.Proofs.Ytnjiocikpigegaa
open Go.RowKit Go.Tn Go.Tn.Mo Go.Maps Go.Sort Go.Shelf

/-- What a client has of a file. -/
structure RowR where
  i : Int
  g : Int
  c : Int
  m : Int
abbrev enR : RowR → List Value := fun r => [.int .i64 r.i, .int .i64 r.g, .int .i64 r.c, .int .i64 r.m]
theorem elR : ElT Try.prog 39 63 4 enR := ⟨Try.underlying39, by kernel_rfl, by decide, fun _ => rfl, fun x u hu => by simp [enR] at hu; rcases hu with rfl | rfl | rfl | rfl <;> rfl⟩
def hit (f : Fi) (c : Int) (r : RowR) : Bool := decide (r.i = f.1) && decide (r.g = f.2) && decide (r.c = c)
theorem hit_iff {f : Fi} {c : Int} {r : RowR} : hit f c r = true ↔ r.i = f.1 ∧ r.g = f.2 ∧ r.c = c := by
  unfold hit
  simp only [Bool.and_eq_true, decide_eq_true_iff, and_assoc]
/-- The document's table. -/
structure RTab (w : World) (B xb : Nat) (sv : Value) (R : List RowR) : Prop where
  blk : w.heap[xb]? = some (.cells #[sv] 41 (0, 0))
  own : LOut enR 4 63 B w sv R
  ne : ∀ r, sv.ownBlock = some r → r ≠ xb
  len : R.length ≤ 1000
theorem RTab.mod {w w' : World} {B xb : Nat} {sv : Value} {R : List RowR} {S : Nat → Prop} (h : RTab w B xb sv R) (hm : Mod S w w') (hS : ¬ S xb) (hS' : ∀ r, sv.ownBlock = some r → ¬ S r) : RTab w' B xb sv R :=
  ⟨hm.heap h.blk hS, h.own.kept hm.size fun r hr => hm.block r (h.own.lt hr) (hS' r hr), h.ne, h.len⟩
theorem RTab.below {w w' : World} {B xb : Nat} {sv : Value} {R : List RowR} (h : RTab w B xb sv R) (hb : Below w.heap.size w w') : RTab w' B xb sv R :=
  ⟨(hb.block _ (lt_of_block h.blk)).trans h.blk, h.own.below hb, h.ne, h.len⟩
theorem RTab.c0 {w : World} {B xb : Nat} {sv : Value} {R : List RowR} (h : RTab w B xb sv R) : w.cell? ⟨xb, 0, none⟩ = some sv := cell_of h.blk rfl

/-- Where a row stands: the first one; none: -1. -/
def AtIs (R : List RowR) (f : Fi) (c : Int) (v : Int) : Prop :=
  (∃ (k : Nat) (r : RowR), v = (k : Int) ∧ R[k]? = some r ∧ hit f c r = true ∧ ∀ j (s : RowR), j < k → R[j]? = some s → hit f c s = false) ∨ (v = -1 ∧ ∀ r ∈ R, hit f c r = false)

set_option maxHeartbeats 4000000 in
theorem rAt_any (w : World) (B xb : Nat) (sv : Value) (R : List RowR) (h : RTab w B xb sv R) (i g c : Int) : Calls Try.prog 33 #[.pointer (some ⟨xb, 0, none⟩), .agg #[.int .i64 i, .int .i64 g], .int .i64 c] w
    fun e w' => (∃ v, e = .returned (.int .i64 v) ∧ AtIs R (i, g) c v) ∧ Below w.heap.size w w' := by
  obtain ⟨w1, hw1⟩ : ∃ w1, w.alloc (.cells #[.int .i64 i, .int .i64 g] 24) = w1 := ⟨_, rfl⟩
  have hW : Below w.heap.size w w1 := by rw [← hw1]; exact (Below.refl _ _).alloc (Nat.le_refl _) _
  have hsz1 : w1.heap.size = w.heap.size + 1 := by rw [← hw1]; simp
  have hbox : Lies w1 w.heap.size 0 #[.int .i64 i, .int .i64 g] := by rw [← hw1]; exact box_file
  have h1 := h.below hW
  obtain ⟨ao, cap, rfl, hcl, hcm, _⟩ := h1.own.sl elR.len
  have hsl := h1.own.sl elR.len
  unfold maxLen at hcm
  have HB := Lib.hid hbox
  have H1 := Lib.hid hw1
  have HS := Lib.hid hsz1
  have hlen := h.len
  clear h hbox hw1 hsz1
  go_enter Try.func33, Try.ntmps33
  go_upto_region 1 with (fail)
  rw [H1.out]
  go_wp2
  go_loopw [7] (fun kv wr => ∃ k : Nat, k ≤ R.length ∧ kv = .int .i64 k ∧ (∀ j (s : RowR), j < k → R[j]? = some s → hit (i, g) c s = false) ∧ Below w1.heap.size w1 wr) (fun kv _ => R.length - (intOf kv).toNat)
  case atStart => exact ⟨0, Nat.zero_le _, rfl, fun j s hj => absurd hj (Nat.not_lt_zero _), Below.refl _ _⟩
  case round =>
    obtain ⟨k, hk, rfl, hno, hbr⟩ := hrel
    have hr := h1.below hbr
    have c0 := hr.c0
    have HN := Lib.hid hno
    clear hno
    by_cases hlt : k < R.length
    · have hlt' : (k : Int) < (R.length : Int) := by omega
      obtain ⟨b4, o4, cap4, hveq, hb4, hco⟩ := hsl.at_ (List.getElem?_eq_getElem hlt)
      obtain ⟨rfl, rfl⟩ : ao = some ⟨b4, o4, none⟩ ∧ cap = cap4 := by simpa using hveq
      have hl := hco.below' hbr hb4
      have hget : R[k]? = some R[k] := List.getElem?_eq_getElem hlt
      have hX := HB.out.below' hbr (by have := HS.out; omega)
      have hmore : hit (i, g) c R[k] = false → ∀ j (s : RowR), j < k + 1 → R[j]? = some s → hit (i, g) c s = false := fun hf j s hj hs => by
        by_cases hjk : j = k
        · subst hjk
          rw [hget] at hs
          cases hs
          exact hf
        · exact HN.out j s (by omega) hs
      have HM := Lib.hid hmore
      have HG := Lib.hid hget
      clear hco hveq hmore hget
      generalize R[k] = r at *
      obtain ⟨ri, rg, rc, rm⟩ := r
      have q0 : wr.cell? ⟨b4, o4 + k * 4, none⟩ = some (.int .i64 ri) := hl 0 (by simp [enR])
      have q1 : wr.cell? ⟨b4, o4 + k * 4 + 1, none⟩ = some (.int .i64 rg) := hl 1 (by simp [enR])
      have q2 : wr.cell? ⟨b4, o4 + k * 4 + 2, none⟩ = some (.int .i64 rc) := hl 2 (by simp [enR])
      have p0 : wr.cell? ⟨w.heap.size, 0, none⟩ = some (.int .i64 i) := hX 0 (by simp)
      have p1 : wr.cell? ⟨w.heap.size, 1, none⟩ = some (.int .i64 g) := hX 1 (by simp)
      clear hl hX hr h1
      by_cases hh : hit (i, g) c ⟨ri, rg, rc, rm⟩ = true
      · obtain ⟨e1, e2, e3⟩ := hit_iff.1 hh
        simp only at e1 e2 e3
        subst e1 e2 e3
        have HH := Lib.hid hh
        clear hh
        go_wp2
        go_quiet (fail)
        go_wp2
        go_ret
        exact ⟨⟨_, rfl, .inl ⟨k, _, rfl, HG.out, HH.out, HN.out⟩⟩, hW.trans ((below_drewN hbr _).mono hW.size)⟩
      · have hf : hit (i, g) c ⟨ri, rg, rc, rm⟩ = false := by simpa using hh
        have hcase : (ri == i) = false ∨ (ri = i ∧ (rg == g) = false) ∨ (ri = i ∧ rg = g ∧ (rc == c) = false) := by
          unfold hit at hf
          simp only [Bool.and_eq_false_iff, decide_eq_false_iff_not] at hf
          by_cases h1 : ri = i
          · by_cases h2 : rg = g
            · right; right
              refine ⟨h1, h2, ?_⟩
              have : rc ≠ c := by
                rcases hf with (h | h) | h
                · exact absurd h1 h
                · exact absurd h2 h
                · exact h
              simpa using this
            · exact .inr (.inl ⟨h1, by simpa using h2⟩)
          · exact .inl (by simpa using h1)
        have HF := Lib.hid hf
        clear hf hh
        rcases hcase with t | ⟨rfl, t⟩ | ⟨rfl, rfl, t⟩
        all_goals
          go_wp2
          go_quiet (fail)
          go_wp2
          go_roundw
          case rel => exact ⟨k + 1, by omega, by go_num, HM.out HF.out, below_drewN hbr _⟩
          case measure => simp [intOf]; omega
    · obtain rfl : k = R.length := by omega
      go_wp2
      go_ret
      refine ⟨⟨_, rfl, .inr ⟨rfl, fun r hr => ?_⟩⟩, hW.trans (hbr.mono hW.size)⟩
      obtain ⟨j, hj, hje⟩ := List.getElem_of_mem hr
      exact HN.out j r hj (by rw [List.getElem?_eq_getElem hj, hje])

/-- What a client has, by the document. -/
def rm (R : List RowR) (f : Fi) (c : Int) : Int := ((R.find? (hit f c)).map (·.m)).getD 0
theorem find_at {R : List RowR} {f : Fi} {c : Int} : ∀ {k : Nat} {r : RowR} {R : List RowR}, R[k]? = some r → hit f c r = true → (∀ j (s : RowR), j < k → R[j]? = some s → hit f c s = false) → R.find? (hit f c) = some r
  | k, r, [], h, _, _ => by simp at h
  | 0, r, x :: xs, h, hh, _ => by
    have : x = r := by simpa using h
    subst this
    rw [List.find?_cons, hh]
  | k + 1, r, x :: xs, h, hh, hn => by
    have h0 := hn 0 x (by omega) (by simp)
    rw [List.find?_cons, h0]
    exact find_at (R := R) (by simpa using h) hh fun j s hj hs => hn (j + 1) s (by omega) (by simpa using hs)
theorem rm_at {R : List RowR} {f : Fi} {c v : Int} (h : AtIs R f c v) : (∃ (k : Nat) (r : RowR), v = (k : Int) ∧ R[k]? = some r ∧ hit f c r = true ∧ rm R f c = r.m ∧ ∀ j (s : RowR), j < k → R[j]? = some s → hit f c s = false) ∨ (v = -1 ∧ rm R f c = 0 ∧ ∀ r ∈ R, hit f c r = false) := by
  rcases h with ⟨k, r, h1, h2, h3, h4⟩ | ⟨h1, h2⟩
  · refine .inl ⟨k, r, h1, h2, h3, ?_, h4⟩
    unfold rm
    rw [find_at (R := R) h2 h3 h4]
    rfl
  · refine .inr ⟨h1, ?_, h2⟩
    unfold rm
    rw [List.find?_eq_none.2 fun r hr => by rw [h2 r hr]; decide]
    rfl

set_option maxHeartbeats 2000000 in
theorem rMode_any (w : World) (B xb : Nat) (sv : Value) (R : List RowR) (h : RTab w B xb sv R) (i g c : Int) : Calls Try.prog 23 #[.pointer (some ⟨xb, 0, none⟩), .agg #[.int .i64 i, .int .i64 g], .int .i64 c] w
    fun e w' => e = .returned (.int .i64 (rm R (i, g) c)) ∧ Below w.heap.size w w' := by
  obtain ⟨w1, hw1⟩ : ∃ w1, w.alloc (.cells #[.int .i64 i, .int .i64 g] 24) = w1 := ⟨_, rfl⟩
  have hW : Below w.heap.size w w1 := by rw [← hw1]; exact (Below.refl _ _).alloc (Nat.le_refl _) _
  have h1 := h.below hW
  have hbox : Lies w1 w.heap.size 0 #[.int .i64 i, .int .i64 g] := by rw [← hw1]; exact box_file
  have p0 : w1.cell? ⟨w.heap.size, 0, none⟩ = some (.int .i64 i) := hbox 0 (by simp)
  have p1 : w1.cell? ⟨w.heap.size, 1, none⟩ = some (.int .i64 g) := hbox 1 (by simp)
  have H1 := Lib.hid hw1
  clear h hbox hw1
  go_enter Try.func23, Try.ntmps23
  go_upto_region 1 with (fail)
  rw [H1.out]
  go_wp2_with fail
  refine (rAt_any w1 B xb sv R h1 i g c).mono ?_
  rintro e w2 ⟨⟨v, rfl, hat⟩, hb2⟩
  have h2 := h1.below hb2
  have hB2 : Below w.heap.size w w2 := hW.trans (hb2.mono hW.size)
  rcases rm_at hat with ⟨k, r, rfl, hk, hh, hrm, _⟩ | ⟨rfl, hrm, _⟩
  · have hsl := h2.own.sl elR.len
    have c0 := h2.c0
    have hlt := (List.getElem?_eq_some_iff.1 hk).1
    have hlt' : (k : Int) < (R.length : Int) := by omega
    obtain ⟨b4, o4, cap4, rfl, hb4, hco⟩ := hsl.at_ hk
    have q3 : w2.cell? ⟨b4, o4 + k * 4 + 3, none⟩ = some (.int .i64 r.m) := hco 3 (by simp [enR])
    have HR := Lib.hid hrm
    have hk0 : (0 : Int) ≤ (k : Int) := by omega
    clear hat hrm hco hk hh hsl h1 h2
    go_wp2
    go_ret
    exact ⟨by rw [HR.out]; rfl, hB2⟩
  · have HR := Lib.hid hrm
    clear hat hrm
    go_wp2
    go_ret
    exact ⟨by rw [HR.out]; rfl, hB2⟩
end Go.Proofs.Ytnjiocikpigegaa
