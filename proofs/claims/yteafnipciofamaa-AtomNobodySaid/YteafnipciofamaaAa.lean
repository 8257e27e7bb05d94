/- Trees that no call made: what is answered there. Keys. -/
import Derived.Test.YteafnipciofamaaOps
import Derived.Test.YteafnipciofamaaOrd
import Derived.Test.YteafnipciofamaaOrg
import Derived.Test.YteafnipciofamaaOrh
import Derived.Test.YteafnipciofamaaSt
import Derived.Test.YteafnipciofamaaLst
import Derived.Test.YteafnipciofamaaClr
import Derived.Test.YteafnipciofamaaGrd
import Derived.Test.YteafnipciofamaaNm
import Derived.BigQuiet
import Derived.WalkKit
import Derived.WalkSpells
namespace Go.Proofs.Yteafnipciofamaa
open Go.RowKit Go.Tn

/-- A file. -/
abbrev Fi := Int × Int
def encF (f : Fi) : Value := .agg #[.int .i64 f.1, .int .i64 f.2]
theorem keyF : KeyOK Try.prog 23 encF where
  now := ⟨_, Try.underlying23, fun a b => .inl rfl⟩
  eq := fun w a b => by
    obtain ⟨i, g⟩ := a
    obtain ⟨i', g'⟩ := b
    have : decide (((i, g) : Fi) = (i', g')) = (i == i' && g == g') := by
      rw [Bool.eq_iff_iff]; simp
    rw [this]
    simp [encF, Op.equal, Op.maxDepth, go_sem]
    repeat' split
    all_goals simp_all
  chk := fun e w a => by
    have h : ∀ n, (Instr.checkKey e (n + 4) 23 (encF a)).run Try.prog w = .ok () w := fun n => by
      simp [encF, Instr.checkKey, underlying, part, go_sem]
    exact h 9996
  bits := fun a => by simp [encF, Instr.sameBits]
abbrev encI : Int → Value := Value.int .i64
theorem keyI : KeyOK Try.prog 3 encI where
  now := ⟨_, Try.underlying3, fun a b => by
    right
    simp only [Instr.sameNow, encI]
    rfl⟩
  eq := fun w a b => by
    have e : (a == b) = decide (a = b) := rfl
    simp [encI, Op.equal, Op.maxDepth, go_sem, e]
  chk := fun e w a => by
    have h : ∀ n, (Instr.checkKey e (n + 4) 3 (encI a)).run Try.prog w = .ok () w := fun n => by
      simp [encI, Instr.checkKey, underlying, part, go_sem]
    exact h 9996
  bits := fun a => by simp [encI, Instr.sameBits]
abbrev encS : ByteArray → Value := Value.string
theorem baEq (a b : ByteArray) : (a.toList == b.toList) = decide (a = b) := by
  rw [Bool.eq_iff_iff, beq_iff_eq, ByteArray.toList_eq, ByteArray.toList_eq, decide_eq_true_eq]
  constructor
  · intro h
    cases a
    cases b
    simp only [ByteArray.mk.injEq]
    exact Array.toList_inj.1 h
  · rintro rfl
    rfl
theorem baBeq (a b : ByteArray) : (a == b) = decide (a = b) := by
  rw [Bool.eq_iff_iff, decide_eq_true_eq]
  obtain ⟨x⟩ := a
  obtain ⟨y⟩ := b
  show (x == y) = true ↔ _
  simp
theorem keyS : KeyOK Try.prog 9 encS where
  now := ⟨_, Try.underlying9, fun a b => by
    right
    simp only [Instr.sameNow, encS]
    exact congrArg some (baBeq a b)⟩
  eq := fun w a b => by
    simp [encS, Op.equal, Op.maxDepth, go_sem, baEq]
  chk := fun e w a => by
    have h : ∀ n, (Instr.checkKey e (n + 4) 9 (encS a)).run Try.prog w = .ok () w := fun n => by
      simp [encS, Instr.checkKey, underlying, part, go_sem]
    exact h 9996
  bits := fun a => by simp [encS, Instr.sameBits, baBeq]
theorem aggF (i g : Int) : AggT Try.prog 23 (#[.int .i64 i, .int .i64 g] : Array Value).size := ⟨⟨_, Try.underlying23, rfl⟩, by kernel_rfl⟩

/-- A call's seven parts. -/
structure CV where
  k : Int
  fi : Int
  fg : Int
  di : Int
  dg : Int
  nm : ByteArray
  ot : ByteArray
  at_ : Int
  da : ByteArray
def CV.cs (c : CV) : Array Value := #[.int .i64 c.k, .int .i64 c.fi, .int .i64 c.fg, .int .i64 c.di, .int .i64 c.dg, .string c.nm, .string c.ot, .int .i64 c.at_, .string c.da]
theorem aggC (c : CV) : AggT Try.prog 25 c.cs.size := ⟨⟨_, Try.underlying25, rfl⟩, by kernel_rfl⟩

/-- Nobody's tree. -/
def Nob (w : World) (v : Value) : Prop := v = .pointer none ∨ ∃ t, v = .pointer (some ⟨t, 0, none⟩) ∧ w.cell? ⟨t, 0, none⟩ = some (.map none)
theorem Nob.below {w w' : World} {v : Value} (h : Nob w v) (hb : Below w.heap.size w w') : Nob w' v := by
  rcases h with rfl | ⟨t, rfl, h⟩
  · exact .inl rfl
  · exact .inr ⟨t, rfl, (hb.cell (p := ⟨t, 0, none⟩) (World.block_lt_of_cell? w _ h)).trans h⟩
theorem ok_no (w : World) (v : Value) (h : Nob w v) : Calls Try.prog 14 #[v] w fun e w' => e = .returned (.bool false) ∧ w' = w := by
  have nmap := fun w => run_neq_map_nil (P := Try.prog) w 28 23 46 none Try.underlying28
  rcases h with rfl | ⟨t, rfl, h⟩
  · go_enter Try.func14, Try.ntmps14
    go_wp2
    go_ret
    exact ⟨rfl, rfl⟩
  · go_enter Try.func14, Try.ntmps14
    go_wp2
    go_ret
    exact ⟨rfl, rfl⟩
theorem block_no (w : World) (v : Value) (h : Nob w v) (i g k : Int) : Calls Try.prog 13 #[v, .agg #[.int .i64 i, .int .i64 g], .int .i64 k] w fun e w' => e = .returned (.pointer none) ∧ Below w.heap.size w w' := by
  have hb : Below w.heap.size w (w.alloc (.cells #[.int .i64 i, .int .i64 g] 23)) := (Below.refl _ _).alloc (Nat.le_refl _) _
  have hok := ok_no _ v (h.below hb)
  clear h
  go_enter Try.func13, Try.ntmps13
  go_wp2_with (go_at_call 14; refine hok.mono ?_; rintro e w ⟨rfl, rfl⟩)
  go_ret
  exact ⟨rfl, hb⟩
theorem read_no (w : World) (v : Value) (h : Nob w v) (i g k : Int) : Calls Try.prog 5 #[v, .agg #[.int .i64 i, .int .i64 g], .int .i64 k] w fun e w' => e = .returned (.tuple #[.string ⟨#[]⟩, .bool false]) ∧ Below w.heap.size w w' := by
  have hb : Below w.heap.size w (w.alloc (.cells #[.int .i64 i, .int .i64 g] 23)) := (Below.refl _ _).alloc (Nat.le_refl _) _
  have hbl := block_no _ v (h.below hb) i g k
  clear h
  go_enter Try.func5, Try.ntmps5
  go_wp2_with fail
  refine hbl.mono ?_
  rintro e w2 ⟨rfl, hb2⟩
  go_wp2
  go_ret2
  exact ⟨rfl, hb.trans (hb2.mono hb.size)⟩
theorem write_no (w : World) (v : Value) (h : Nob w v) (i g k : Int) (s : ByteArray) : Calls Try.prog 8 #[v, .agg #[.int .i64 i, .int .i64 g], .int .i64 k, .string s] w fun e w' => e = .returned (.bool false) ∧ Below w.heap.size w w' := by
  have hb : Below w.heap.size w (w.alloc (.cells #[.int .i64 i, .int .i64 g] 23)) := (Below.refl _ _).alloc (Nat.le_refl _) _
  have hbl := block_no _ v (h.below hb) i g k
  clear h
  go_enter Try.func8, Try.ntmps8
  go_wp2_with fail
  refine hbl.mono ?_
  rintro e w2 ⟨rfl, hb2⟩
  go_wp2
  go_ret
  exact ⟨rfl, hb.trans (hb2.mono hb.size)⟩
theorem len_no (w : World) (v : Value) (h : Nob w v) : Calls Try.prog 10 #[v] w fun e w' => e = .returned (.int .i64 0) ∧ w' = w := by
  have hok := ok_no _ v h
  clear h
  go_enter Try.func10, Try.ntmps10
  go_wp2_with (go_at_call 14; refine hok.mono ?_; rintro e w ⟨rfl, rfl⟩)
  go_ret
  exact ⟨rfl, rfl⟩
theorem copy_no (w : World) (v : Value) (h : Nob w v) : Calls Try.prog 9 #[v] w fun e w' => e = .returned (.pointer none) ∧ w' = w := by
  have hok := ok_no _ v h
  clear h
  go_enter Try.func9, Try.ntmps9
  go_wp2_with (go_at_call 14; refine hok.mono ?_; rintro e w ⟨rfl, rfl⟩)
  go_ret
  exact ⟨rfl, rfl⟩
theorem must_no (w : World) (v : Value) (h : Nob w v) (c : CV) : Calls Try.prog 6 #[v, .agg c.cs] w fun e w' => e = .returned (.int .i64 1) ∧ Below w.heap.size w w' := by
  obtain ⟨k, fi, fg, di, dg, nm, ot, at_, da⟩ := c
  unfold CV.cs
  simp only
  have hb : Below w.heap.size w (w.alloc (.cells #[.int .i64 k, .int .i64 fi, .int .i64 fg, .int .i64 di, .int .i64 dg, .string nm, .string ot, .int .i64 at_, .string da] 25)) := (Below.refl _ _).alloc (Nat.le_refl _) _
  have hok := ok_no _ v (h.below hb)
  clear h
  go_enter Try.func6, Try.ntmps6
  go_wp2_with (go_at_call 14; refine hok.mono ?_; rintro e w ⟨rfl, rfl⟩)
  go_ret
  exact ⟨rfl, hb⟩
theorem do_no (w : World) (v : Value) (h : Nob w v) (c : CV) : Calls Try.prog 7 #[v, .agg c.cs, .agg #[.int .i64 0, .int .i64 0, .int .i64 0, .int .i64 0, .string ⟨#[]⟩, .slice none 0 0]] w fun e w' => e = .returned (.bool false) ∧ Below w.heap.size w w' := by
  obtain ⟨k, fi, fg, di, dg, nm, ot, at_, da⟩ := c
  unfold CV.cs
  simp only
  have hb : Below w.heap.size w ((w.alloc (.cells #[.int .i64 k, .int .i64 fi, .int .i64 fg, .int .i64 di, .int .i64 dg, .string nm, .string ot, .int .i64 at_, .string da] 25)).alloc (.cells #[.int .i64 0, .int .i64 0, .int .i64 0, .int .i64 0, .string ⟨#[]⟩, .slice none 0 0] 39)) := ((Below.refl _ _).alloc (Nat.le_refl _) _).alloc (by simp) _
  have hok := ok_no _ v (h.below hb)
  clear h
  go_enter Try.func7, Try.ntmps7
  go_wp2_with (go_at_call 14; refine hok.mono ?_; rintro e w ⟨rfl, rfl⟩)
  go_ret
  exact ⟨rfl, hb⟩
end Go.Proofs.Yteafnipciofamaa
