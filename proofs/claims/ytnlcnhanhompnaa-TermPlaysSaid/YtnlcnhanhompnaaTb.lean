/- The document's lease in memory, and its walks. -/
import Derived.Test.YtnlcnhanhompnaaTa
import Derived.Deep.QuietTactic
namespace Go.Proofs.Ytnlcnhanhompnaa
open Go.RowKit Go.Tn

/-- The latest of all: what was sent, and the term. -/
def latest (t : Nat) : List Nat → Nat
  | [] => 0
  | s :: r => max (s + t) (latest t r)
theorem latest_snoc (t : Nat) (l : List Nat) (s : Nat) : latest t (l ++ [s]) = max (latest t l) (s + t) := by
  induction l with
  | nil => simp [latest]
  | cons x r ih => simp only [List.cons_append, latest, ih]; omega
theorem latest_le (t : Nat) (l : List Nat) {m : Nat} (h : ∀ s ∈ l, s ≤ m) : latest t l ≤ m + t := by
  induction l with
  | nil => simp [latest]
  | cons x r ih =>
    have h1 := h x (by simp)
    have h2 := ih (fun s hs => h s (by simp [hs]))
    simp only [latest]
    omega

theorem infoU : (Try.prog.info? 24).map (fun i => (i.zero, i.size, i.bytes)) = some (some (.int .u64 0), 1, 8) := by kernel_rfl
abbrev encU (n : Nat) : Value := .int .u64 n
/-- The document's lease: at block b, its list v. -/
structure RLeaseAt (B : Nat) (w : World) (b t : Nat) (v : Value) (ss : List Nat) : Prop where
  blk : w.heap[b]? = some (.cells #[.int .i64 t, v] 44 (0, 0))
  own : Own1 w 24 v (ss.map encU)
  lo : ∀ r, v.ownBlock = some r → B ≤ r ∧ r ≠ b
  lb : B ≤ b
  t1 : 1 ≤ t
  t2 : t ≤ 1024
  le : ∀ s ∈ ss, s ≤ 1099511627775
  len : ss.length ≤ 100
theorem RLeaseAt.below {B : Nat} {w w' : World} {b t : Nat} {v : Value} {ss : List Nat} (h : RLeaseAt B w b t v ss) (hb : Below w.heap.size w w') : RLeaseAt B w' b t v ss :=
  ⟨(hb.block b (lt_of_block h.blk)).trans h.blk, h.own.kept fun r hr => by
    rcases h.own.form with ⟨rfl, _⟩ | ⟨g, cap, cur, rfl, _, _, hg, _⟩
    · cases hr
    · cases hr
      exact hb.block g (lt_of_block hg), h.lo, h.lb, h.t1, h.t2, h.le, h.len⟩
end Go.Proofs.Ytnlcnhanhompnaa
