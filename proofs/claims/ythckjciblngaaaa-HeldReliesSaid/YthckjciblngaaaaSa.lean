/- The document's Held in memory: only that all is there (what it answers is not asked). At, All, drop walked. -/
import Derived.Test.YthckjciblngaaaaHa
import Derived.Test.YthckjciblngaaaaClr
namespace Go.Proofs.Ythckjciblngaaaa
open Go.RowKit Go.Tn Go.Maps Go.Sort Go.Shelf

structure RRow where
  i : Int
  g : Int
  m : Int
  v : Int
  c : Bool
abbrev enRR : RRow → List Value := fun r => [.int .i64 r.i, .int .i64 r.g, .int .i64 r.m, .int .u64 r.v, .bool r.c]
theorem elRR : ElT Try.prog 33 89 5 enRR := ⟨Try.underlying33, by kernel_rfl, by decide, fun _ => rfl, fun x u hu => by simp [enRR] at hu; rcases hu with rfl | rfl | rfl | rfl | rfl <;> rfl⟩
abbrev enU : Int → List Value := fun x => [.int .u64 x]
theorem elU : ElT Try.prog 29 32 1 enU := ⟨Try.underlying29, by kernel_rfl, by decide, fun _ => rfl, fun x u hu => by simp [enU] at hu; subst hu; rfl⟩

/-- The document's Held: at block xb, its lease at xl. -/
structure RAt (w : World) (xb xl : Nat) (ph se bo : Int) (lv : Value) (R : List RRow) (wv : Value) (W : List Fi) (tm : Int) (sv : Value) (T : List Int) : Prop where
  blk : w.heap[xb]? = some (.cells #[.int .i64 ph, .int .u64 se, .int .u64 bo, lv, wv, .pointer (some ⟨xl, 0, none⟩)] 36 (0, 0))
  lea : w.heap[xl]? = some (.cells #[.int .i64 tm, sv] 31 (0, 0))
  lst : LOut enRR 5 89 0 w lv R
  wan : LOut enF 2 39 0 w wv W
  snt : LOut enU 1 32 0 w sv T
  ne : xb ≠ xl
  ol : ∀ r, lv.ownBlock = some r → r ≠ xb ∧ r ≠ xl
  ow : ∀ r, wv.ownBlock = some r → r ≠ xb ∧ r ≠ xl
  os : ∀ r, sv.ownBlock = some r → r ≠ xb ∧ r ≠ xl
def rfoot (xb xl : Nat) (lv wv sv : Value) : Nat → Prop := fun x => x = xb ∨ x = xl ∨ lv.ownBlock = some x ∨ wv.ownBlock = some x ∨ sv.ownBlock = some x
theorem LOut.typ {α : Type} {en : α → List Value} {k B : Nat} {e : TypeId} {w : World} {v : Value} {xs : List α} (h : LOut en k e B w v xs) {r : Nat} (hr : v.ownBlock = some r) : ∃ cur, w.heap[r]? = some (.cells cur e (0, 0)) := LOut.cells h hr
section
variable {w w' : World} {xb xl : Nat} {ph se bo : Int} {lv : Value} {R : List RRow} {wv : Value} {W : List Fi} {tm : Int} {sv : Value} {T : List Int}
theorem RAt.lt (h : RAt w xb xl ph se bo lv R wv W tm sv T) : ∀ x, rfoot xb xl lv wv sv x → x < w.heap.size := fun x hx => by
  rcases hx with rfl | rfl | hx | hx | hx
  · exact lt_of_block h.blk
  · exact lt_of_block h.lea
  · exact h.lst.lt hx
  · exact h.wan.lt hx
  · exact h.snt.lt hx
theorem RAt.mod {S : Nat → Prop} (h : RAt w xb xl ph se bo lv R wv W tm sv T) (hm : Mod S w w') (hS : ∀ x, rfoot xb xl lv wv sv x → ¬ S x) : RAt w' xb xl ph se bo lv R wv W tm sv T :=
  ⟨hm.heap h.blk (hS _ (.inl rfl)), hm.heap h.lea (hS _ (.inr (.inl rfl))), h.lst.kept hm.size fun r hr => hm.block r (h.lst.lt hr) (hS r (.inr (.inr (.inl hr)))), h.wan.kept hm.size fun r hr => hm.block r (h.wan.lt hr) (hS r (.inr (.inr (.inr (.inl hr))))), h.snt.kept hm.size fun r hr => hm.block r (h.snt.lt hr) (hS r (.inr (.inr (.inr (.inr hr))))), h.ne, h.ol, h.ow, h.os⟩
theorem RAt.below (h : RAt w xb xl ph se bo lv R wv W tm sv T) (hb : Below w.heap.size w w') : RAt w' xb xl ph se bo lv R wv W tm sv T :=
  h.mod (Mod.of_below hb) fun x hx hh => absurd (h.lt x hx) (Nat.not_lt.2 hh)
theorem RAt.c0 (h : RAt w xb xl ph se bo lv R wv W tm sv T) : w.cell? ⟨xb, 0, none⟩ = some (.int .i64 ph) := cell_of h.blk rfl
theorem RAt.c1 (h : RAt w xb xl ph se bo lv R wv W tm sv T) : w.cell? ⟨xb, 1, none⟩ = some (.int .u64 se) := cell_of h.blk rfl
theorem RAt.c2 (h : RAt w xb xl ph se bo lv R wv W tm sv T) : w.cell? ⟨xb, 2, none⟩ = some (.int .u64 bo) := cell_of h.blk rfl
theorem RAt.c3 (h : RAt w xb xl ph se bo lv R wv W tm sv T) : w.cell? ⟨xb, 3, none⟩ = some lv := cell_of h.blk rfl
theorem RAt.c4 (h : RAt w xb xl ph se bo lv R wv W tm sv T) : w.cell? ⟨xb, 4, none⟩ = some wv := cell_of h.blk rfl
theorem RAt.c5 (h : RAt w xb xl ph se bo lv R wv W tm sv T) : w.cell? ⟨xb, 5, none⟩ = some (.pointer (some ⟨xl, 0, none⟩)) := cell_of h.blk rfl
theorem RAt.free (h : RAt w xb xl ph se bo lv R wv W tm sv T) {o : Nat} : w.frozen? ⟨xb, o, none⟩ = false := free_of h.blk
end
/-- So, whatever it holds: its blocks are S, its lists have n elements at most. -/
def RIs (w : World) (xb : Nat) (S : Nat → Prop) (n : Nat) : Prop := ∃ xl ph se bo lv R wv W tm sv T, RAt w xb xl ph se bo lv R wv W tm sv T ∧ (∀ x, S x ↔ rfoot xb xl lv wv sv x) ∧ R.length ≤ n ∧ W.length ≤ n ∧ T.length ≤ n
/-- What a call leaves of a part of memory. -/
structure Step (w w' : World) (S S' : Nat → Prop) : Prop where
  mod : Mod S w w'
  fresh : ∀ x, S' x → S x ∨ w.heap.size ≤ x
theorem Step.refl (w : World) (S : Nat → Prop) : Step w w S S := ⟨Mod.refl _ _, fun _ h => .inl h⟩
theorem Step.of_below {w w' : World} {S : Nat → Prop} (hb : Below w.heap.size w w') : Step w w' S S := ⟨(Mod.of_below hb).mono fun x hx hh => absurd hx (Nat.not_lt.2 hh), fun _ h => .inl h⟩
theorem Step.trans {w w' w'' : World} {S S' S'' : Nat → Prop} (h : Step w w' S S') (k : Step w' w'' S' S'') : Step w w'' S S'' :=
  ⟨h.mod.trans k.mod (fun _ h => h) (fun x hx hs => by
    rcases h.fresh x hs with h | h
    · exact h
    · omega), fun x hx => by
    rcases k.fresh x hx with h1 | h1
    · exact h.fresh x h1
    · exact .inr (Nat.le_trans h.mod.size h1)⟩
theorem RIs.below {w w' : World} {xb n : Nat} {S : Nat → Prop} (h : RIs w xb S n) (hb : Below w.heap.size w w') : RIs w' xb S n := by
  obtain ⟨xl, ph, se, bo, lv, R, wv, W, tm, sv, T, h1, h2⟩ := h
  exact ⟨xl, ph, se, bo, lv, R, wv, W, tm, sv, T, h1.below hb, h2⟩
theorem RIs.lt {w : World} {xb n : Nat} {S : Nat → Prop} (h : RIs w xb S n) : ∀ x, S x → x < w.heap.size := fun x hx => by
  obtain ⟨xl, ph, se, bo, lv, R, wv, W, tm, sv, T, h1, h2, _⟩ := h
  exact h1.lt x ((h2 x).1 hx)
theorem RIs.mod {w w' : World} {xb n : Nat} {S S' : Nat → Prop} (h : RIs w xb S n) (hm : Mod S' w w') (hS : ∀ x, S x → ¬ S' x) : RIs w' xb S n := by
  obtain ⟨xl, ph, se, bo, lv, R, wv, W, tm, sv, T, h1, h2, h3⟩ := h
  exact ⟨xl, ph, se, bo, lv, R, wv, W, tm, sv, T, h1.mod hm fun x hx => hS x ((h2 x).2 hx), h2, h3⟩
theorem RIs.mono {w : World} {xb n n' : Nat} {S : Nat → Prop} (h : RIs w xb S n) (hn : n ≤ n') : RIs w xb S n' := by
  obtain ⟨xl, ph, se, bo, lv, R, wv, W, tm, sv, T, h1, h2, h3, h4, h5⟩ := h
  exact ⟨xl, ph, se, bo, lv, R, wv, W, tm, sv, T, h1, h2, by omega, by omega, by omega⟩

/-! ### At -/
section
variable {w : World} {xb xl : Nat} {ph se bo : Int} {lv : Value} {R : List RRow} {wv : Value} {W : List Fi} {tm : Int} {sv : Value} {T : List Int}
set_option maxHeartbeats 4000000 in
theorem rAt_any (h : RAt w xb xl ph se bo lv R wv W tm sv T) (hn : R.length ≤ 1000) (i g : Int) : Calls Try.prog 57 #[.pointer (some ⟨xb, 0, none⟩), .agg #[.int .i64 i, .int .i64 g]] w
    fun e w' => (∃ v : Int, e = .returned (.int .i64 v) ∧ (v = -1 ∨ ∃ k : Nat, v = k ∧ k < R.length)) ∧ Below w.heap.size w w' := by
  obtain ⟨w1, hw1⟩ : ∃ w1, w.alloc (.cells #[.int .i64 i, .int .i64 g] 39) = w1 := ⟨_, rfl⟩
  have hW : Below w.heap.size w w1 := by rw [← hw1]; exact (Below.refl _ _).alloc (Nat.le_refl _) _
  have hsz1 : w1.heap.size = w.heap.size + 1 := by rw [← hw1]; simp
  have hbox : Lies w1 w.heap.size 0 #[.int .i64 i, .int .i64 g] := by rw [← hw1]; exact box_file
  have h1 := h.below hW
  have hsl := h1.lst.sl elRR.len
  obtain ⟨ao, cap, rfl, hcl, hcm, _⟩ := h1.lst.sl elRR.len
  unfold maxLen at hcm
  have HB := Lib.hid hbox
  have H1 := Lib.hid hw1
  have HS := Lib.hid hsz1
  have HH := Lib.hid h1
  clear h hbox hw1 hsz1 h1
  go_enter Try.func57, Try.ntmps57
  go_upto_region 1 with (fail)
  rw [H1.out]
  go_wp2
  go_loopw [5] (fun kv wr => ∃ k : Nat, k ≤ R.length ∧ kv = .int .i64 k ∧ Below w1.heap.size w1 wr) (fun kv _ => R.length - (intOf kv).toNat)
  case atStart => exact ⟨0, Nat.zero_le _, rfl, Below.refl _ _⟩
  case round =>
    obtain ⟨k, hk, rfl, hbr⟩ := hrel
    have c3 := (HH.out.below hbr).c3
    by_cases hlt : k < R.length
    · have hlt' : (k : Int) < (R.length : Int) := by omega
      obtain ⟨b4, o4, cap4, hveq, hb4, hco⟩ := hsl.at_ (List.getElem?_eq_getElem hlt)
      obtain ⟨rfl, rfl⟩ : ao = some ⟨b4, o4, none⟩ ∧ cap = cap4 := by simpa using hveq
      have hl := hco.below' hbr hb4
      have hX := HB.out.below' hbr (by have := HS.out; omega)
      clear hco hveq
      generalize R[k] = r at *
      obtain ⟨ri, rg, rm, rv, rc⟩ := r
      have q0 : wr.cell? ⟨b4, o4 + k * 5, none⟩ = some (.int .i64 ri) := hl 0 (by simp [enRR])
      have q1 : wr.cell? ⟨b4, o4 + k * 5 + 1, none⟩ = some (.int .i64 rg) := hl 1 (by simp [enRR])
      have p0 : wr.cell? ⟨w.heap.size, 0, none⟩ = some (.int .i64 i) := hX 0 (by simp)
      have p1 : wr.cell? ⟨w.heap.size, 1, none⟩ = some (.int .i64 g) := hX 1 (by simp)
      clear hl hX
      by_cases hh : ri = i ∧ rg = g
      · obtain ⟨rfl, rfl⟩ := hh
        go_wp2
        go_quiet (fail)
        go_wp2
        go_ret
        exact ⟨⟨_, rfl, .inr ⟨k, rfl, hlt⟩⟩, hW.trans ((below_drewN hbr _).mono hW.size)⟩
      · have hcase : (ri == i) = false ∨ (ri = i ∧ (rg == g) = false) := by
          by_cases h1 : ri = i
          · exact .inr ⟨h1, by simpa using fun h2 => hh ⟨h1, h2⟩⟩
          · exact .inl (by simpa using h1)
        clear hh
        rcases hcase with t | ⟨rfl, t⟩
        all_goals
          go_wp2
          go_quiet (fail)
          go_wp2
          go_roundw
          case rel => exact ⟨k + 1, by omega, by go_num, below_drewN hbr _⟩
          case measure => simp [intOf]; omega
    · obtain rfl : k = R.length := by omega
      go_wp2
      go_ret
      exact ⟨⟨_, rfl, .inl rfl⟩, hW.trans (hbr.mono hW.size)⟩
end
end Go.Proofs.Ythckjciblngaaaa
