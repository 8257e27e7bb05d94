import Derived.Test.YtbdjkbaieokbhaaWa
import Derived.Test.YtbdjkbaieokbhaaOps
namespace Go.Proofs.Ytbdjkbaieokbhaa
open Go.RowKit Go.Tn Go.Tn.Ghost

abbrev iv (n : Nat) : Value := .int .i64 (n : Int)
abbrev zv (n : Int) : Value := .int .i64 n
def encP (p : Pl) : Value := .agg #[.int .i64 p.c, .int .i64 p.i, .int .i64 p.g, .int .i64 p.a]

theorem keyP : KeyOK Try.prog 52 encP where
  now := ⟨_, Try.underlying52, fun a b => .inl rfl⟩
  eq := fun w a b => by
    obtain ⟨c, i, g, x⟩ := a
    obtain ⟨c', i', g', x'⟩ := b
    have : decide ((⟨c, i, g, x⟩ : Pl) = ⟨c', i', g', x'⟩) = (c == c' && (i == i' && g == g' && x == x')) := by
      rw [Bool.eq_iff_iff]; simp [and_assoc]
    rw [this]
    simp [encP, Op.equal, Op.maxDepth, go_sem]
    repeat' split
    all_goals simp_all
  chk := fun e w a => by
    have h : ∀ n, (Instr.checkKey e (n + 4) 52 (encP a)).run Try.prog w = .ok () w := fun n => by
      simp [encP, Instr.checkKey, underlying, part, go_sem]
    exact h 9996
  bits := fun a => by simp [encP, Instr.sameBits]

/-- Slices' zero, ints' row of the table. -/
abbrev nilS : Value := .slice none 0 0
theorem zeroS (w : World) : (zeroValue 23).run Try.prog w = .ok nilS w := by kernel_rfl
theorem info3 : (Try.prog.info? 3).map (fun i => (i.zero, i.size, i.bytes)) = some (some (.int .i64 0), 1, 8) := by kernel_rfl

/-- A map of places to lists of numbers. -/
structure GM (w : World) (m : Nat) (L : Ents Pl) (clk : Nat) (f : Pl → List Nat) : Prop where
  blk : w.heap[m]? = some (.map (ents encP L) clk)
  wf : WF L clk
  own : ∀ p, Own1 w 3 (getD p L nilS) ((f p).map iv)
  apart : ∀ p q, p ≠ q → ∀ r, (getD p L nilS).ownBlock = some r → (getD q L nilS).ownBlock ≠ some r

theorem Own1.lt {w : World} {v : Value} {xs : List Value} {e : TypeId} (h : Own1 w e v xs) {r : Nat} (hr : v.ownBlock = some r) : r < w.heap.size := (World.ownsRow.lt h r hr).2

theorem Own1.cells {w : World} {v : Value} {xs : List Value} {e : TypeId} (h : Own1 w e v xs) {r : Nat} (hr : v.ownBlock = some r) : ∃ cur, w.heap[r]? = some (.cells cur e (0, 0)) := by
  rcases h.form with ⟨rfl, _⟩ | ⟨g, cap, cur, rfl, _, _, hg, _⟩
  · simp [Value.ownBlock] at hr
  · simp [Value.ownBlock] at hr
    subst hr
    exact ⟨cur, hg⟩

theorem GM.kept {w w' : World} {m : Nat} {L : Ents Pl} {clk : Nat} {f : Pl → List Nat} (h : GM w m L clk f) (hm : w'.heap[m]? = w.heap[m]?) (hr : ∀ p r, (getD p L nilS).ownBlock = some r → w'.heap[r]? = w.heap[r]?) : GM w' m L clk f :=
  ⟨hm.trans h.blk, h.wf, fun p => (h.own p).kept (hr p), h.apart⟩

theorem GM.struck {w w' : World} {m : Nat} {L : Ents Pl} {clk : Nat} {f : Pl → List Nat} {p : Pl} (h : GM w m L clk f) (hm : w'.heap[m]? = some (.map (ents encP (del p L)) clk)) (hr : ∀ p r, (getD p L nilS).ownBlock = some r → w'.heap[r]? = w.heap[r]?) :
    GM w' m (del p L) clk (updF f p []) := by
  have hg : ∀ q, getD q (del p L) nilS = if q = p then nilS else getD q L nilS := fun q => by
    unfold getD
    rw [get_del h.wf]
    split <;> rfl
  refine ⟨hm, h.wf.del, fun q => ?_, fun q q' hne r h1 => ?_⟩
  · rw [hg]
    unfold updF
    split
    · exact World.ownsRow_nil _ _ _ _
    · exact (h.own q).kept (hr q)
  · rw [hg] at h1 ⊢
    split at h1
    · simp [Value.ownBlock] at h1
    · split
      · simp [Value.ownBlock]
      · exact h.apart q q' hne r h1

theorem GM.stored {w w' : World} {m : Nat} {L : Ents Pl} {clk : Nat} {f : Pl → List Nat} {p : Pl} {v : Value} {xs : List Nat} (h : GM w m L clk f) (hm : w'.heap[m]? = some (.map (ents encP (upd p v L clk)) (updClk p L clk)))
    (hv : Own1 w' 3 v (xs.map iv)) (hloc : v.ownBlock = (getD p L nilS).ownBlock ∨ ∃ r, v.ownBlock = some r ∧ w.heap.size ≤ r)
    (hr : ∀ q, q ≠ p → ∀ r, (getD q L nilS).ownBlock = some r → w'.heap[r]? = w.heap[r]?) :
    GM w' m (upd p v L clk) (updClk p L clk) (updF f p xs) := by
  have hg : ∀ q, getD q (upd p v L clk) nilS = if q = p then v else getD q L nilS := fun q => by
    unfold getD
    rw [get_upd h.wf]
    split <;> rfl
  refine ⟨hm, h.wf.upd, fun q => ?_, fun q q' hne r h1 => ?_⟩
  · rw [hg]
    unfold updF
    split
    · exact hv
    · rename_i hq; exact (h.own q).kept (hr q hq)
  · have far : ∀ q, q ≠ p → ∀ r, v.ownBlock = some r → (getD q L nilS).ownBlock ≠ some r := fun q hq r h1 h2 => by
      rcases hloc with hl | ⟨r', hl, hle⟩
      · exact h.apart p q (Ne.symm hq) r (hl ▸ h1) h2
      · rw [h1] at hl; cases hl
        have := Own1.lt (h.own q) h2
        omega
    rw [hg] at h1 ⊢
    split at h1
    · subst_vars
      rw [if_neg (Ne.symm hne)]
      exact far q' (Ne.symm hne) r h1
    · rename_i hq
      split
      · intro h2; exact far q hq r h2 h1
      · exact h.apart q q' hne r h1

/-- A book that lies in memory from block number B on. -/
structure Book (B : Nat) (w : World) (b : Nat) (S : St) (bf bo bl : Nat) (Lo : Ents Pl) (co : Nat) (Ll : Ents Pl) (cl : Nat) : Prop where
  blk : w.heap[b]? = some (.cells #[.slice (some ⟨bf, 0, none⟩) S.fates.length S.fates.length, .map (some bo), .map (some bl)] 45 (0, 0))
  fts : w.heap[bf]? = some (.cells (S.fates.map zv).toArray 3 (0, 0))
  o : GM w bo Lo co S.op
  l : GM w bl Ll cl S.li
  nbf : b ≠ bf
  nol : bo ≠ bl
  rowO : ∀ p r, (getD p Lo nilS).ownBlock = some r → B ≤ r ∧ r ≠ bf ∧ ∀ q, (getD q Ll nilS).ownBlock ≠ some r
  rowL : ∀ p r, (getD p Ll nilS).ownBlock = some r → B ≤ r ∧ r ≠ bf
  lo : B ≤ b ∧ B ≤ bf ∧ B ≤ bo ∧ B ≤ bl
  rO : ∀ p, ∀ x ∈ S.op p, x < S.fates.length
  rL : ∀ p, ∀ x ∈ S.li p, x < S.fates.length

end Go.Proofs.Ytbdjkbaieokbhaa
