/- A vault is opened: walked. -/
import Derived.Test.YtipbaajdnnddgaaGreatMgVlj30
import Derived.Test.YtipbaajdnnddgaaGreatMgVlj31
import Derived.Test.YtipbaajdnnddgaaGreatMgVlj24
/- The store's write: one state behind it, or the power went off. Plain. -/
namespace Go.Proofs.YtipbaajdnnddgaaGreat
open Go.RowKit Go.Tn Go.Tn.Bt Go.Tn.Lp Go.Tn.Dk
theorem write_homes {l : Lg} {d : Dsk} {ps : List Pt} (hon : d.off = false) (herr : l.err = 0) (hn2 : 2 ≤ l.n) (ht : transB ps (l.homes d) = true) (hc : cutB l.epoch l.next (recB ps) = .ok (cutL l.epoch l.next (recB ps))) (h0 : (l.write d ps).2.2 = 0) : homesB (l.write d ps).1 (l.write d ps).2.1 = overB (homesB l d) ps := by
  by_cases hf : l.free < (cutL l.epoch l.next (recB ps)).length
  · rw [write_full herr ht hc hf] at h0
    cases h0
  · have hpl := putPcs_live l.n (cutL l.epoch l.next (recB ps)) d hon
    have hw : l.write d ps = if (putPcs l.n (cutL l.epoch l.next (recB ps)) d).2 ≠ 0 then ({ l with err := (putPcs l.n (cutL l.epoch l.next (recB ps)) d).2 }, (putPcs l.n (cutL l.epoch l.next (recB ps)) d).1, (putPcs l.n (cutL l.epoch l.next (recB ps)) d).2)
        else ({ l with next := l.next + (cutL l.epoch l.next (recB ps)).length, H := takeH l.H ps }, (putPcs l.n (cutL l.epoch l.next (recB ps)) d).1, 0) := by
      unfold Lg.write
      rw [if_neg (by omega), if_neg (by rw [ht]; decide), hc]
      simp only
      rw [if_neg hf]
    rw [hw] at h0 ⊢
    generalize putPcs l.n (cutL l.epoch l.next (recB ps)) d = r at *
    obtain ⟨d', c⟩ := r
    simp only at hpl
    rcases hpl with ⟨rfl, p2, p3, p4⟩ | ⟨rfl, p2, p3, m, p4⟩
    · rw [if_neg (by simp)]
      exact homesB_write hn2 rfl rfl p3 p4 ht
    · rw [if_pos (by simp)] at h0
      cases h0
theorem write_codes {l : Lg} {d : Dsk} {ps : List Pt} (herr : l.err = 0) (ht : transB ps (l.homes d) = true) (hc : cutB l.epoch l.next (recB ps) = .ok (cutL l.epoch l.next (recB ps))) (h0 : (l.write d ps).2.2 ≠ 0) (h7 : (l.write d ps).2.2 ≠ 7) : (l.write d ps).2.2 = 8 ∧ l.free < cutN (recB ps) := by
  by_cases hf : l.free < (cutL l.epoch l.next (recB ps)).length
  · rw [write_full herr ht hc hf]
    rw [cutL_len] at hf
    exact ⟨rfl, hf⟩
  · exfalso
    have hw : (l.write d ps).2.2 = (putPcs l.n (cutL l.epoch l.next (recB ps)) d).2 := by
      unfold Lg.write
      rw [if_neg (by omega), if_neg (by rw [ht]; decide), hc]
      simp only
      rw [if_neg hf]
      split
      · rfl
      · rename_i h
        simp only [ne_eq, Decidable.not_not] at h
        exact h.symm
    rcases putPcs_code l.n (cutL l.epoch l.next (recB ps)) d with e | e
    · exact h0 (hw.trans e)
    · exact h7 (hw.trans e)
theorem KLive.fitd {n i : Nat} {l : Lg} {d : Dsk} {S : List (List (List Nat))} (h : KLive n i l d S) : l.fit d ∧ d.ok := by
  obtain ⟨F, D, P, hr, -, -⟩ := h.ex
  exact ⟨hr.fit, hr.dok⟩
/-- Behind a checkpoint the whole ring is free. -/
theorem check_free {l : Lg} {d : Dsk} (h : (l.check d).2.2 = 0) : (l.check d).1.free = (l.check d).1.n ∧ (l.check d).1.n = (l.sync d).1.n := by
  revert h
  unfold Lg.check
  split
  · intro h
    rename_i h1
    exact absurd h h1
  · split
    · intro h
      cases h
    · split
      · intro h
        rename_i h1
        exact absurd h h1
      · split
        · intro h
          rename_i h1
          exact absurd h h1
        · intro _
          refine ⟨?_, ?_⟩
          · have hn : (l.sync d).1.next = l.next := by
              unfold Lg.sync
              split <;> rfl
            unfold Lg.free
            simp [hn]
          · rfl
theorem kput {n i : Nat} {l : Lg} {d : Dsk} (h : KLive n i l d [homesB l d]) (hi : i ≤ 900) {ps : List Pt} (ht : transB ps (l.homes d) = true) (hb : ∀ p ∈ ps, ∀ x ∈ p.2, x < 256) (hN : cutN (recB ps) ≤ n) (hQ : d.Q.length ≤ 900000000) :
    (((stPut l d ps).2.2 = 0 ∧ KLive n (i + 2) (stPut l d ps).1 (stPut l d ps).2.1 [overB (homesB l d) ps] ∧ homesB (stPut l d ps).1 (stPut l d ps).2.1 = overB (homesB l d) ps) ∨
    ((stPut l d ps).2.2 = 7 ∧ ∃ S, KDead n (i + 2) (stPut l d ps).1 (stPut l d ps).2.1 S ∧ ∀ x ∈ S, x = homesB l d ∨ x = overB (homesB l d) ps)) ∧
    ((l.write d ps).2.2 = 8 → (l.check d).2.2 = 0 → (l.check d).1.ok (l.check d).2.1) := by
  obtain ⟨hfit, hdok⟩ := h.fitd
  have hep := h.ep
  have hnx := h.nx
  have fin : ∀ (j : Nat) (l1 : Lg) (d1 : Dsk) (hs : List (List Nat)), j ≤ i + 2 → KLive n j l1 d1 [homesB l d, hs] → homesB l1 d1 = hs → hs = overB (homesB l d) ps →
      (((stSync l1 d1).2.2 = 0 ∧ KLive n (i + 2) (stSync l1 d1).1 (stSync l1 d1).2.1 [overB (homesB l d) ps] ∧ homesB (stSync l1 d1).1 (stSync l1 d1).2.1 = overB (homesB l d) ps) ∨
      ((stSync l1 d1).2.2 = 7 ∧ ∃ S, KDead n (i + 2) (stSync l1 d1).1 (stSync l1 d1).2.1 S ∧ ∀ x ∈ S, x = homesB l d ∨ x = overB (homesB l d) ps)) := fun j l1 d1 hs hj h1 e1 e2 => by
    have hsy := klive_sync h1 (sync_dok h1.fitd.2)
    rw [e1, e2] at hsy
    rcases hsy with ⟨s1, s2, s3⟩ | ⟨s1, s2⟩
    · exact .inl ⟨s1, s2.mono hj, s3⟩
    · refine .inr ⟨s1, _, s2.mono hj, fun x hx => ?_⟩
      simp only [List.mem_cons, List.not_mem_nil, or_false] at hx
      exact hx
  have hc : ∀ lx : Lg, lx.epoch ≤ 256 * (i + 1) + 1 → lx.next ≤ 100 * (i + 1) → cutB lx.epoch lx.next (recB ps) = .ok (cutL lx.epoch lx.next (recB ps)) := fun lx h1 h2 => cut_ok ht (by omega) (by omega)
  have hwd := write_dok (ps := ps) hfit hdok (by omega)
  rcases klive_write h (by omega) hb hwd with ⟨w0, w1⟩ | ⟨w0, w1⟩ | ⟨w0, w7, w2, w3⟩
  · have e1 := write_homes h.on h.err hfit.n2 ht (hc l (by omega) (by omega)) w0
    rw [stPut_0 w0]
    exact ⟨fin (i + 1) _ _ _ (by omega) w1 rfl e1, fun h8 => by rw [w0] at h8; cases h8⟩
  · rw [stPut_no (by rw [w0]; decide) (by rw [w0]; decide)]
    refine ⟨.inr ⟨w0, _, w1.mono (by omega), fun x hx => ?_⟩, fun h8 => by rw [w0] at h8; cases h8⟩
    simp only [List.cons_append, List.nil_append, List.mem_cons, List.not_mem_nil, or_false] at hx
    exact hx
  · obtain ⟨w8, -⟩ := write_codes h.err ht (hc l (by omega) (by omega)) w0 w7
    have hcd := check_dok hfit hdok (by omega)
    rw [stPut_8 w8]
    rcases klive_check h (by omega) hcd with ⟨c0, c1, c2⟩ | ⟨c0, c1⟩
    · have hcf := check_free c0
      have hcn : (l.check d).1.n = n := c1.rn
      have hcfit := c1.fitd
      have hch : (l.check d).1.homes (l.check d).2.1 = l.homes d := by
        have := congrArg List.length c2
        rwa [homesB_len, homesB_len] at this
      refine ⟨?_, fun _ _ => KInv.ok (.inl c1) (by omega)⟩
      rw [if_neg (by rw [c0]; decide)]
      have ht2 : transB ps ((l.check d).1.homes (l.check d).2.1) = true := by rw [hch]; exact ht
      have hQ2 := (lcheck_Q (l := l) (d := d) hdok.hi).1
      have hwd2 := write_dok (ps := ps) hcfit.1 hcfit.2 (by omega)
      have hep2 := c1.ep
      have hnx2 := c1.nx
      have hc2 := hc (l.check d).1 hep2 hnx2
      rw [← c2] at c1
      rcases klive_write c1 (by omega) hb hwd2 with ⟨x0, x1⟩ | ⟨x0, x1⟩ | ⟨x0, x7, -⟩
      · rw [if_pos x0]
        have e1 := write_homes c1.on c1.err hcfit.1.n2 ht2 hc2 x0
        rw [c2] at x1 e1
        exact fin (i + 1 + 1) _ _ _ (by omega) x1 rfl e1
      · rw [if_neg (by rw [x0]; decide)]
        refine .inr ⟨x0, _, x1, fun x hx => ?_⟩
        rw [c2] at hx
        simp only [List.cons_append, List.nil_append, List.mem_cons, List.not_mem_nil, or_false] at hx
        exact hx
      · obtain ⟨-, hfr⟩ := write_codes c1.err ht2 hc2 x0 x7
        omega
    · rw [if_pos (by rw [c0]; decide)]
      refine ⟨.inr ⟨c0, _, c1.mono (by omega), fun x hx => .inl (List.mem_singleton.1 hx)⟩, fun _ h0 => by rw [c0] at h0; cases h0⟩
end Go.Proofs.YtipbaajdnnddgaaGreat

/- The store's write where there is no fuse; a log opened anew. Plain. -/
namespace Go.Proofs.YtipbaajdnnddgaaGreat
open Go.RowKit Go.Tn Go.Tn.Bt Go.Tn.Lp Go.Tn.Dk
/-- No fuse, the power on. -/
structure Quiet (d : Dsk) : Prop where
  calm : Dsk.calm d
  fuse : True
theorem Quiet.write {l : Lg} {d : Dsk} {ps : List Pt} (h : Quiet d) : Quiet (l.write d ps).2.1 := by
  unfold Lg.write
  split
  · exact h
  · split
    · exact h
    · split
      · exact h
      · split
        · exact h
        · rename_i pcs _ _
          have hp := putPcs_calm l.n pcs d h.calm
          rw [hp]
          exact ⟨⟨h.calm.fuse, h.calm.on⟩, h.fuse⟩
theorem Quiet.flush {d : Dsk} (h : Quiet d) : Quiet d.flush ∧ d.flush.Q = [] := by
  rw [h.calm.flush]
  exact ⟨⟨⟨h.calm.fuse, h.calm.on⟩, h.fuse⟩, rfl⟩
theorem Quiet.sync {l : Lg} {d : Dsk} (h : Quiet d) : Quiet (l.sync d).2 := by
  unfold Lg.sync
  split
  · exact h
  · exact h.flush.1
theorem Quiet.check {l : Lg} {d : Dsk} (h : Quiet d) : Quiet (l.check d).2.1 := by
  have hs := h.sync (l := l)
  unfold Lg.check
  generalize (l.sync d).2 = d1 at *
  have hb : Quiet (l.bring d1).1 := by
    unfold Lg.bring
    rw [bringGo_calm _ _ _ hs.calm]
    exact ⟨⟨hs.calm.fuse, hs.calm.on⟩, hs.fuse⟩
  split
  · exact hs
  · split
    · exact hs
    · split
      · exact hb
      · have hv : Quiet ((l.bring d1).1.save 0 l.epoch ⟨l.gen + 1, l.next, l.epoch⟩).1 := by
          rw [save_calm hb.calm]
          exact ⟨⟨hb.calm.fuse, hb.calm.on⟩, hb.fuse⟩
        split
        · exact hv
        · exact hv
theorem stSync_quiet {l : Lg} {d : Dsk} (h : Quiet d) (h0 : (stSync l d).2.2 = 0) : Quiet (stSync l d).2.1 ∧ (stSync l d).2.1.Q = [] := by
  unfold stSync at h0 ⊢
  simp only at h0 ⊢
  unfold Lg.sync at h0 ⊢
  split
  · rename_i he
    rw [if_pos he] at h0
    exact absurd h0 he
  · exact h.flush
theorem put_quiet {l : Lg} {d : Dsk} {ps : List Pt} (h : Quiet d) : Quiet (stPut l d ps).2.1 ∧ ((stPut l d ps).2.2 = 0 → (stPut l d ps).2.1.Q = []) := by
  have hsy : ∀ (l1 : Lg) (d1 : Dsk), Quiet d1 → Quiet (stSync l1 d1).2.1 := fun l1 d1 h1 => h1.sync
  by_cases h0 : (l.write d ps).2.2 = 0
  · rw [stPut_0 h0]
    exact ⟨hsy _ _ h.write, fun e => (stSync_quiet h.write e).2⟩
  · by_cases h8 : (l.write d ps).2.2 = 8
    · rw [stPut_8 h8]
      split
      · rename_i hc
        exact ⟨h.check, fun e => absurd e hc⟩
      · split
        · exact ⟨hsy _ _ h.check.write, fun e => (stSync_quiet h.check.write e).2⟩
        · rename_i hc
          exact ⟨h.check.write, fun e => absurd e hc⟩
    · rw [stPut_no h0 h8]
      exact ⟨h.write, fun e => absurd e h0⟩
/-- The store's write, no fuse. -/
theorem kput_quiet {n i : Nat} {l : Lg} {d : Dsk} (h : KLive n i l d [homesB l d]) (hi : i ≤ 900) (hq : Quiet d) {ps : List Pt} (ht : transB ps (l.homes d) = true) (hb : ∀ p ∈ ps, ∀ x ∈ p.2, x < 256) (hN : cutN (recB ps) ≤ n) (hQ : d.Q.length ≤ 900000000) :
    ∃ l' d', stPut l d ps = (l', d', 0) ∧ KLive n (i + 2) l' d' [homesB l' d'] ∧ homesB l' d' = overB (homesB l d) ps ∧ Quiet d' ∧ d'.Q = [] ∧ ((l.write d ps).2.2 = 8 → (l.check d).2.2 = 0 → (l.check d).1.ok (l.check d).2.1) := by
  obtain ⟨h1, h2⟩ := kput h hi ht hb hN hQ
  obtain ⟨q1, q2⟩ := put_quiet (l := l) (ps := ps) hq
  rcases h1 with ⟨a1, a2, a3⟩ | ⟨a1, S, a2, -⟩
  · refine ⟨_, _, ?_, ?_, a3, q1, q2 a1, h2⟩
    · rw [← a1]
    · rw [a3]
      exact a2
  · have := a2.off
    rw [q1.calm.on] at this
    cases this
theorem crash_quiet {d : Dsk} (h : Quiet d) (hQ : d.Q = []) : d.crash [] 0 = d := by
  obtain ⟨L, Q, fu, fd, off⟩ := d
  have h1 := h.calm.fuse
  have h2 := h.calm.on
  simp only at h1 h2 hQ
  subst h1 h2 hQ
  rfl
/-- A log opened anew, no power lost. -/
theorem kreopen {n i : Nat} {l : Lg} {d : Dsk} (h : KLive n i l d [homesB l d]) (hq : Quiet d) (hQ : d.Q = []) (hi : i ≤ 200) : ∃ l2, openB d n = some l2 ∧ newestB d (2 + n) < 16777215 ∧ KLive n (i + 1) l2 d [homesB l2 d] ∧ homesB l2 d = homesB l d := by
  have hf := h.fitd
  have hn := h.rn
  obtain ⟨l2, k1, k2, k3, k4⟩ := kcrash h.outs hf.2 (by have := hf.1.n2; omega) (by have := hf.1.nd; omega) hi [] 0
  rw [crash_quiet hq hQ] at k1 k2 k3 k4
  exact ⟨l2, k1, k2, k3, List.mem_singleton.1 k4⟩
end Go.Proofs.YtipbaajdnnddgaaGreat

/- A vault in memory; ok, Record, Boot, set. -/
namespace Go.Proofs.YtipbaajdnnddgaaGreat
open Go.RowKit Go.Tn Go.Tn.Bt Go.Tn.Lp Go.Tn.Dk Go.Tn.Ino
def vltC (s : Nat) (r : Rec) : Array Value := (.pointer (some ⟨s, 0, none⟩) :: recL r).toArray
theorem vltC_0 (s : Nat) (r : Rec) : (vltC s r)[0]? = some (.pointer (some ⟨s, 0, none⟩)) := rfl
theorem vltC_r (s : Nat) (r : Rec) (j : Nat) : (vltC s r)[1 + j]? = (recC r)[j]? := by
  rw [Nat.add_comm 1 j]
  simp [vltC, recC]
theorem vltC_size (s : Nat) (r : Rec) : (vltC s r).size = (recC r).size + 1 := by simp [vltC, recC]
theorem lies_rec {w : World} {v s : Nat} {r : Rec} {T : TypeId} (h : w.heap[v]? = some (.cells (vltC s r) T (0, 0))) : Lies w v 1 (recC r) := fun j hj => by
  have e : (vltC s r)[1 + j]? = some (recC r)[j] := by rw [vltC_r, Array.getElem?_eq_getElem hj]
  exact cell_of h e
theorem setMany_rec {s : Nat} {r r' : Rec} (h : r.cl.length = 8) (h' : r'.cl.length = 8) : setMany (vltC s r) 1 (recC r').toList = vltC s r' := by
  have z : (recC r).size = 17 := recC_size h
  have z' : (recC r').size = 17 := recC_size h'
  apply Array.ext_getElem?
  intro j
  by_cases hj : j < (vltC s r).size
  · rw [setMany_get _ _ _ _ hj]
    have hz : (vltC s r).size = 18 := by rw [vltC_size, z]
    have hl : (recC r').toList.length = 17 := by rw [Array.length_toList, z']
    by_cases h1 : 1 ≤ j ∧ j < 1 + (recC r').toList.length
    · rw [if_pos h1]
      obtain ⟨k, rfl⟩ : ∃ k, j = 1 + k := ⟨j - 1, by omega⟩
      rw [vltC_r, Nat.add_sub_cancel_left, Array.getElem?_toList]
    · rw [if_neg h1]
      obtain rfl : j = 0 := by omega
      rfl
  · rw [Array.getElem?_eq_none (by rw [setMany_size]; omega), Array.getElem?_eq_none (by rw [vltC_size, z']; rw [vltC_size, z] at hj; omega)]
/-- A vault, its store, its record. -/
structure VAt (w : World) (F FD : Nat → Prop) (v s g p : Nat) (l : Lg) (d : Dsk) (r : Rec) : Prop where
  blk : w.heap[v]? = some (.cells (vltC s r) 46 (0, 0))
  fs : Fs w F FD s g p l d
  rl : r.fits
  ns : v ≠ s
  nF : ¬ F v
  nD : ¬ FD v
section
variable {w w' : World} {F FD : Nat → Prop} {v s g p : Nat} {l : Lg} {d : Dsk} {r : Rec}
theorem VAt.below (h : VAt w F FD v s g p l d r) (hb : Below w.heap.size w w') : VAt w' F FD v s g p l d r :=
  ⟨(hb.block v (lt_of_block h.blk)).trans h.blk, h.fs.below hb, h.rl, h.ns, h.nF, h.nD⟩
theorem VAt.turn {r2 : Lg × Dsk × Nat} {e : Ending} (h : VAt w F FD v s g p l d r) (hp : FPost w F FD s g p r2 e w') : e = .returned (.int .i64 (r2.2.2 : Nat)) ∧ ∃ F' FD', VAt w' F' FD' v s g p r2.1 r2.2.1 r ∧ Mod (fun b => F b ∨ FD b) w w' ∧ (∀ b, F' b → F b ∨ w.heap.size ≤ b) ∧ ∀ b, FD' b → FD b ∨ w.heap.size ≤ b := by
  obtain ⟨h1, F', FD', h2, h3, h4, h5⟩ := hp
  have hl := lt_of_block h.blk
  refine ⟨h1, F', FD', ⟨h3.heap h.blk (fun e => e.elim h.nF h.nD), h2, h.rl, h.ns, fun e => ?_, fun e => ?_⟩, h3, h4, h5⟩
  · rcases h4 v e with e | e
    · exact h.nF e
    · omega
  · rcases h5 v e with e | e
    · exact h.nD e
    · omega
theorem VAt.c (h : VAt w F FD v s g p l d r) : w.cell? ⟨v, 0, none⟩ = some (.pointer (some ⟨s, 0, none⟩)) := cell_of h.blk rfl
theorem vok_any (h : VAt w F FD v s g p l d r) : Calls Tryz.prog 23 #[.pointer (some ⟨v, 0, none⟩)] w fun e w' => e = .returned (.bool true) ∧ w' = w := by
  have c := h.c
  clear h
  go_enter Tryz.func23, Tryz.ntmps23
  go_wp2
  go_ret
  exact ⟨rfl, rfl⟩
set_option maxRecDepth 20000 in
set_option maxHeartbeats 2000000 in
theorem vrecord_any (h : VAt w F FD v s g p l d r) : Calls Tryz.prog 8 #[.pointer (some ⟨v, 0, none⟩)] w fun e w' => e = .returned (.agg (recC r)) ∧ Below w.heap.size w w' := by
  have hbz : (w.alloc (.cells (recC Rec.zero) 35)).heap[w.heap.size]? = some (.cells (recC Rec.zero) 35 (0, 0)) := heap_alloc_at
  have hb1 : Below w.heap.size w (w.alloc (.cells (recC Rec.zero) 35)) := (Below.refl _ _).alloc (Nat.le_refl _) _
  have h1 := h.below hb1
  have hok := vok_any h1
  have hL := lies_rec h1.blk
  have hag := aggR h.rl.len
  have hone := recC_one r
  have hsz : (recC Rec.zero).size = (recC r).size := by rw [recC_size rfl, recC_size h.rl.len]
  generalize hw1 : w.alloc (.cells (recC Rec.zero) 35) = w1 at hbz hb1 h1 hok hL
  rw [recC_z] at hw1
  have HB1 := Lib.hid hb1
  clear h h1 hb1
  go_enter Tryz.func8, Tryz.ntmps8
  go_upto_region 1 with fail
  clear hw1
  go_wp2_with (first
    | (go_at_call 23; refine hok.mono ?_; rintro e wt ⟨rfl, hw⟩; obtain rfl := hw.symm; clear hw)
    | ((with_reducible refine wpList_loadA hag hL ?_ ?_); rfl; go_frame)
    | ((with_reducible refine wpList_storeB hag ?_ ?_ hbz hsz hone ?_); rfl; rfl; (intro w9 hh9 hm9; have HH9 := Lib.hid hh9; have HM9 := Lib.hid hm9; clear hh9 hm9); go_frame)
    | fail)
  refine bodyPost_ret (results_cellA rfl _ rfl hag (lies_of HH9.out)) rfl ?_
  exact ⟨rfl, HB1.out.trans (HM9.out.below HB1.out.size fun x hx e => by omega)⟩
/-- The record behind set. -/
def setRec (c : Nat) (r' r : Rec) : Rec := if c = 0 then r' else r
/-- What set leaves. -/
def VPost (w : World) (F FD : Nat → Prop) (v s g p : Nat) (r2 : Lg × Dsk × Nat) (rec : Rec) (e : Ending) (w' : World) : Prop := e = .returned (.int .i64 (r2.2.2 : Nat)) ∧ ∃ F' FD', VAt w' F' FD' v s g p r2.1 r2.2.1 rec ∧ Mod (fun b => (F b ∨ FD b) ∨ b = v) w w' ∧ (∀ b, F' b → F b ∨ w.heap.size ≤ b) ∧ ∀ b, FD' b → FD b ∨ w.heap.size ≤ b
set_option maxRecDepth 20000 in
set_option maxHeartbeats 4000000 in
theorem vset_any (h : VAt w F FD v s g p l d r) (hok : l.ok d) (r' : Rec) (hf : r'.fits) (hr : r'.right = true) (hQ : d.Q.length ≤ 999900000)
    (hok2 : (l.write d [(0, r'.sec)]).2.2 = 8 → (l.check d).2.2 = 0 → (l.check d).1.ok (l.check d).2.1) : Calls Tryz.prog 22 #[.pointer (some ⟨v, 0, none⟩), .agg (recC r')] w
    fun e w' => VPost w F FD v s g p (stPut l d [(0, r'.sec)]) (setRec (stPut l d [(0, r'.sec)]).2.2 r' r) e w' := by
  have hb1 : Below w.heap.size w (w.alloc (.cells (recC r') 35)) := (Below.refl _ _).alloc (Nat.le_refl _) _
  have hbk : (w.alloc (.cells (recC r') 35)).heap[w.heap.size]? = some (.cells (recC r') 35 (0, 0)) := heap_alloc_at
  have hz1 : (w.alloc (.cells (recC r') 35)).heap.size = w.heap.size + 1 := by simp
  generalize hw1 : w.alloc (.cells (recC r') 35) = w1 at hb1 hbk hz1
  have hL := lies_of hbk
  have hag := aggR hf.len
  have hone := recC_one r'
  have hen := eenc_any w1 r' hf
  have h1 := h.below hb1
  have HL := Lib.hid hL
  have HV1 := Lib.hid h1
  have HB1 := Lib.hid hb1
  have HBK := Lib.hid hbk
  have HZ1 := Lib.hid hz1
  have HRR := Lib.hid hr
  have HOK := Lib.hid hok
  have HOK2 := Lib.hid hok2
  have HF := Lib.hid hf
  have hlt0 : ∀ b, F b ∨ FD b → b < w.heap.size := fun b hb => by
    rcases hb with hb | hb
    · exact h.fs.log.lt b hb
    · exact h.fs.disk.lt b hb
  have HLT := Lib.hid hlt0
  have hvl := lt_of_block h.blk
  clear h h1 hb1 hbk hz1 hr hok hok2 hf hlt0
  go_enter Tryz.func22, Tryz.ntmps22
  go_upto_region 1 with fail
  clear hw1
  go_wp2_with (first
    | ((with_reducible refine wpList_loadA hag hL ?_ ?_); rfl; go_frame)
    | fail)
  refine hen.mono ?_
  rintro e w2 ⟨hP, hb2⟩
  unfold eencP at hP
  rw [HRR.out, if_pos rfl] at hP
  obtain ⟨ve, rfl, hO⟩ := hP
  obtain ⟨a2, n2, c2, rfl⟩ := hO.shape
  have hb02 := HB1.out.trans (hb2.mono HB1.out.size)
  have hV2 := HV1.out.below hb2
  have c := hV2.c
  have hz := HZ1.out
  have hsr := fsetrecord_any hV2.fs HOK.out _ r'.sec (hO.sl el8.len) ⟨sector_len (by rw [Rec.bits_len HF.out.len]; decide), sector_lt _⟩ (fun x hx => ⟨fun e => by have := HLT.out x e; have := hO.lo x hx; omega, hO.lt hx⟩) hQ HOK2.out
  have HV2 := Lib.hid hV2
  have HB02 := Lib.hid hb02
  have HBK2 := Lib.hid ((hb2.block w.heap.size (by rw [hz]; exact Nat.lt_succ_self _)).trans HBK.out)
  clear hen hO hb2 hb02 hV2 hL
  go_wp2_with fail
  refine hsr.mono ?_
  rintro e w3 hp
  obtain ⟨rfl, F3, FD3, hV3, hm3, h13, h23⟩ := HV2.out.turn hp
  have hm03 : Mod (fun b => F b ∨ FD b) w w3 := ((Mod.of_below HB02.out).mono (T := fun b => F b ∨ FD b) fun x hx hS => absurd hx (Nat.not_lt.2 hS)).trans hm3 (fun x h => h) (fun x _ h => h)
  have h13' : ∀ b, F3 b → F b ∨ w.heap.size ≤ b := fun b hb => (h13 b hb).imp id fun h => Nat.le_trans HB02.out.size h
  have h23' : ∀ b, FD3 b → FD b ∨ w.heap.size ≤ b := fun b hb => (h23 b hb).imp id fun h => Nat.le_trans HB02.out.size h
  have hbk3 := hm3.heap HBK2.out (fun e => absurd (HLT.out _ e) (Nat.lt_irrefl _))
  have hL3 := lies_of hbk3
  have hvb := hV3.blk
  have HV3 := Lib.hid hV3
  have HM := Lib.hid hm03
  have H13 := Lib.hid h13'
  have H23 := Lib.hid h23'
  clear hsr hp hV3 hm3 h13 h23 hm03 h13' h23' hbk3 HV2 HBK2 c
  obtain ⟨R, hR⟩ : ∃ R, stPut l d [(0, r'.sec)] = R := ⟨_, rfl⟩
  rw [hR] at HV3 ⊢
  have HR := Lib.hid hR
  clear hR HOK2
  obtain ⟨l3, d3, c3⟩ := R
  simp only at HV3 ⊢
  by_cases hc : c3 = 0
  · subst hc
    have hoz : 1 + (recC r').size ≤ (vltC s r).size := by rw [vltC_size, recC_size HF.out.len, recC_size HV3.out.rl.len]; decide
    go_wp2_with (first
      | ((with_reducible refine wpList_loadA hag hL3 ?_ ?_); rfl; go_frame)
      | ((with_reducible refine wpList_storeO hag hvb hoz hone ?_ ?_ ?_); rfl; rfl; (intro w9 hh9 hm9; have HH9 := Lib.hid hh9; have HM9 := Lib.hid hm9; clear hh9 hm9); go_frame)
      | fail)
    go_ret
    have hh := HH9.out
    rw [setMany_rec HV3.out.rl.len HF.out.len] at hh
    rw [HR.out]
    unfold setRec
    rw [if_pos rfl]
    refine ⟨rfl, F3, FD3, ⟨hh, HV3.out.fs.mod HM9.out (fun b hb e => ?_) (fun b hb e => ?_) (fun e => HV3.out.ns e.symm), HF.out, HV3.out.ns, HV3.out.nF, HV3.out.nD⟩, HM.out.trans HM9.out (fun x h => .inl h) (fun x _ h => .inr h), H13.out, H23.out⟩
    · exact HV3.out.nF (e ▸ hb)
    · exact HV3.out.nD (e ▸ hb)
  · have hne : ((c3 : Int) != 0) = true := by rw [bne_iff_ne]; omega
    go_wp2
    go_ret
    rw [HR.out]
    unfold setRec
    rw [if_neg hc]
    exact ⟨rfl, F3, FD3, HV3.out, HM.out.mono fun x _ h => .inl h, H13.out, H23.out⟩
end
end Go.Proofs.YtipbaajdnnddgaaGreat

/- SetSession, SetHolds, Boot: walked. -/
namespace Go.Tn.Ino
/-- What a record says of a client. -/
def Rec.ses (r : Rec) (c : Nat) : Nat := ((r.cl[c]?).getD (0, false)).1
def Rec.hol (r : Rec) (c : Nat) : Bool := ((r.cl[c]?).getD (0, false)).2
def sesOk (r : Rec) (c : Int) (s : Nat) : Prop := 0 ≤ c ∧ c < 8 ∧ r.ses c.toNat < s ∧ s ≤ 1099511627775
def holOk (r : Rec) (c : Int) : Prop := 0 ≤ c ∧ c < 8 ∧ r.ses c.toNat ≠ 0
theorem Rec.get_cl {r : Rec} (h : r.cl.length = 8) {c : Nat} (hc : c < 8) : r.cl[c]? = some (r.ses c, r.hol c) := by
  have e : r.cl[c]? = some (r.cl[c]'(by omega)) := List.getElem?_eq_getElem _
  unfold Rec.ses Rec.hol
  rw [e]
  rfl
end Go.Tn.Ino
namespace Go.Proofs.YtipbaajdnnddgaaGreat
open Go.RowKit Go.Tn Go.Tn.Bt Go.Tn.Lp Go.Tn.Dk Go.Tn.Ino
theorem with_fits {r : Rec} (h : r.fits) {c s : Nat} {b : Bool} (hs : s < 1099511627776) : (r.with_ c s b).fits :=
  ⟨h.boot, by show (r.cl.set c (s, b)).length = 8; rw [List.length_set, h.len], fun x hx => by
    have hx : x ∈ r.cl.set c (s, b) := hx
    rcases List.mem_or_eq_of_mem_set hx with hx | rfl
    · exact h.cl x hx
    · exact hs⟩
theorem with_right {r : Rec} (h : r.right = true) {c s : Nat} {b : Bool} (hs : s ≠ 0) : (r.with_ c s b).right = true := by
  unfold Rec.right at h ⊢
  rw [List.all_eq_true] at h ⊢
  intro x hx
  have hx : x ∈ r.cl.set c (s, b) := hx
  rcases List.mem_or_eq_of_mem_set hx with hx | rfl
  · exact h x hx
  · cases b
    · rfl
    · simp [hs]
section
variable {w w' : World} {F FD : Nat → Prop} {v s g p : Nat} {l : Lg} {d : Dsk} {r : Rec}
theorem VAt.ses (h : VAt w F FD v s g p l d r) {c : Nat} (hc : c < 8) : w.cell? ⟨v, 2 + c * 2, none⟩ = some (.int .u64 (r.ses c : Nat)) ∧ w.cell? ⟨v, 2 + c * 2 + 1, none⟩ = some (.bool (r.hol c)) := by
  have h0 := recL_c r (Rec.get_cl h.rl.len hc) (o := 0) (by decide)
  have h1 := recL_c r (Rec.get_cl h.rl.len hc) (o := 1) (by decide)
  rw [← vltC_r s] at h0 h1
  exact ⟨cell_of h.blk (by rw [show 2 + c * 2 = 1 + (1 + (c * 2 + 0)) by omega]; exact h0), cell_of h.blk (by rw [show 2 + c * 2 + 1 = 1 + (1 + (c * 2 + 1)) by omega]; exact h1)⟩
set_option maxRecDepth 20000 in
set_option maxHeartbeats 4000000 in
theorem vsetsession_no (h : VAt w F FD v s g p l d r) (c : Int) (k : Nat) (hk : k < 18446744073709551616) (hc63 : -9223372036854775808 ≤ c ∧ c < 9223372036854775808) (hn : ¬ sesOk r c k) : Calls Tryz.prog 9 #[.pointer (some ⟨v, 0, none⟩), .int .i64 c, .int .u64 k] w fun e w' => e = .returned (.int .i64 2) ∧ w' = w := by
  have hok := vok_any h
  by_cases hc : 0 ≤ c ∧ c < 8
  · obtain ⟨c, rfl⟩ := Int.eq_ofNat_of_zero_le hc.1
    have hc8 : c < 8 := by omega
    have hc8' : (c : Int) < 8 := by omega
    have q := (h.ses hc8).1
    have hkk : k ≤ r.ses c ∨ 1099511627775 < k := by
      unfold sesOk at hn
      rw [Int.toNat_natCast] at hn
      omega
    clear h hn hc
    generalize r.ses c = sc at *
    by_cases h1 : k ≤ sc
    · have d1 : decide (k ≤ sc) = true := decide_eq_true (by omega)
      clear hkk
      go_enter Tryz.func9, Tryz.ntmps9
      go_wp2_with (first
        | (go_at_call 23; refine hok.mono ?_; rintro e wt ⟨rfl, hw⟩; obtain rfl := hw.symm; clear hw)
        | fail)
      go_ret
      exact ⟨rfl, rfl⟩
    · have d1 : decide (k ≤ sc) = false := decide_eq_false (by omega)
      have h2 : (1099511627775 : Int) < (k : Int) := by omega
      clear hkk h1
      go_enter Tryz.func9, Tryz.ntmps9
      go_wp2_with (first
        | (go_at_call 23; refine hok.mono ?_; rintro e wt ⟨rfl, hw⟩; obtain rfl := hw.symm; clear hw)
        | fail)
      go_ret
      exact ⟨rfl, rfl⟩
  · clear h hn
    by_cases h0 : c < 0
    · clear hc
      go_enter Tryz.func9, Tryz.ntmps9
      go_wp2_with (first
        | (go_at_call 23; refine hok.mono ?_; rintro e wt ⟨rfl, hw⟩; obtain rfl := hw.symm; clear hw)
        | fail)
      go_ret
      exact ⟨rfl, rfl⟩
    · have h8 : 8 ≤ c := by omega
      have h0' : 0 ≤ c := by omega
      clear hc h0
      go_enter Tryz.func9, Tryz.ntmps9
      go_wp2_with (first
        | (go_at_call 23; refine hok.mono ?_; rintro e wt ⟨rfl, hw⟩; obtain rfl := hw.symm; clear hw)
        | fail)
      go_ret
      exact ⟨rfl, rfl⟩
set_option maxRecDepth 20000 in
set_option maxHeartbeats 4000000 in
theorem vsetsession_ok (h : VAt w F FD v s g p l d r) (hok : l.ok d) (hrr : r.right = true) (c : Nat) (k : Nat) (hc8 : c < 8) (hk0 : r.ses c < k) (hk1 : k ≤ 1099511627775) (hQ : d.Q.length ≤ 999900000)
    (hok2 : (l.write d [(0, (r.with_ c k false).sec)]).2.2 = 8 → (l.check d).2.2 = 0 → (l.check d).1.ok (l.check d).2.1) : Calls Tryz.prog 9 #[.pointer (some ⟨v, 0, none⟩), .int .i64 c, .int .u64 k] w
    fun e w' => VPost w F FD v s g p (stPut l d [(0, (r.with_ c k false).sec)]) (setRec (stPut l d [(0, (r.with_ c k false).sec)]).2.2 (r.with_ c k false) r) e w' := by
  have hvk := vok_any h
  have q := (h.ses hc8).1
  have hL := lies_rec h.blk
  have hag := aggR h.rl.len
  have hwi := ewith_any w r h.rl.len c hc8 k false
  have hc8' : (c : Int) < 8 := by omega
  have hst : ∀ w2, VAt w2 F FD v s g p l d r → Calls Tryz.prog 22 #[.pointer (some ⟨v, 0, none⟩), .agg (recC (r.with_ c k false))] w2
    fun e w' => VPost w2 F FD v s g p (stPut l d [(0, (r.with_ c k false).sec)]) (setRec (stPut l d [(0, (r.with_ c k false).sec)]).2.2 (r.with_ c k false) r) e w' := fun w2 h2 => vset_any h2 hok _ (with_fits h.rl (by omega)) (with_right hrr (by omega)) hQ hok2
  have HV := Lib.hid h
  have HST := Lib.hid hst
  clear h hok hrr hok2 hst
  generalize hsc : r.ses c = sc at *
  have d1 : decide (k ≤ sc) = false := decide_eq_false (by omega)
  have d2 : (k : Int) ≤ 1099511627775 := by omega
  clear hsc
  go_enter Tryz.func9, Tryz.ntmps9
  go_wp2_with (first
    | (go_at_call 23; refine hvk.mono ?_; rintro e wt ⟨rfl, hw⟩; obtain rfl := hw.symm; clear hw)
    | ((with_reducible refine wpList_loadA hag hL ?_ ?_); rfl; go_frame)
    | fail)
  refine hwi.mono ?_
  rintro e w2 ⟨rfl, hb2⟩
  have hs2 := HST.out w2 (HV.out.below hb2)
  have HB2 := Lib.hid hb2
  clear hwi hb2 hL q
  go_wp2_with fail
  refine hs2.mono ?_
  rintro e w3 ⟨rfl, F3, FD3, hV3, hm3, h13, h23⟩
  have HP : Hid (VPost w F FD v s g p (stPut l d [(0, (r.with_ c k false).sec)]) (setRec (stPut l d [(0, (r.with_ c k false).sec)]).2.2 (r.with_ c k false) r) (.returned (.int .i64 ((stPut l d [(0, (r.with_ c k false).sec)]).2.2 : Nat))) w3) :=
    Lib.hid ⟨rfl, F3, FD3, hV3, ((Mod.of_below HB2.out).mono (T := fun b => (F b ∨ FD b) ∨ b = v) fun x hx hS => absurd hx (Nat.not_lt.2 hS)).trans hm3 (fun x h => h) (fun x _ h => h), fun b hb => (h13 b hb).imp id fun h => Nat.le_trans HB2.out.size h, fun b hb => (h23 b hb).imp id fun h => Nat.le_trans HB2.out.size h⟩
  clear hs2 hV3 hm3 h13 h23
  go_wp2
  go_ret
  exact HP.out
end
end Go.Proofs.YtipbaajdnnddgaaGreat

/- SetHolds, Boot: walked. -/
namespace Go.Proofs.YtipbaajdnnddgaaGreat
open Go.RowKit Go.Tn Go.Tn.Bt Go.Tn.Lp Go.Tn.Dk Go.Tn.Ino
set_option maxRecDepth 100000 in
theorem fieldB (r : Rec) (w : World) : (Instr.field 35 (.agg (recC r)) 0).run Tryz.prog w = .ok (.int .u64 (r.boot : Nat)) w := by
  obtain ⟨b, cl⟩ := r
  unfold recC recL
  simp only
  generalize cl.flatMap clL = X
  kernel_rfl
section
variable {w w' : World} {F FD : Nat → Prop} {v s g p : Nat} {l : Lg} {d : Dsk} {r : Rec}
set_option maxRecDepth 20000 in
theorem vboot_any (h : VAt w F FD v s g p l d r) : Calls Tryz.prog 13 #[.pointer (some ⟨v, 0, none⟩)] w fun e w' => e = .returned (.int .u64 (r.boot : Nat)) ∧ Below w.heap.size w w' := by
  have hr := vrecord_any h
  have h0 := fieldB r
  clear h
  go_enter Tryz.func13, Tryz.ntmps13
  go_wp2_with fail
  refine hr.mono ?_
  rintro e w2 ⟨rfl, hb⟩
  have HB := Lib.hid hb
  clear hr hb
  go_wp2
  go_ret
  exact ⟨rfl, HB.out⟩
set_option maxRecDepth 20000 in
set_option maxHeartbeats 4000000 in
theorem vsetholds_no (h : VAt w F FD v s g p l d r) (c : Int) (b : Bool) (hc63 : -9223372036854775808 ≤ c ∧ c < 9223372036854775808) (hn : ¬ holOk r c) : Calls Tryz.prog 10 #[.pointer (some ⟨v, 0, none⟩), .int .i64 c, .bool b] w fun e w' => e = .returned (.int .i64 2) ∧ w' = w := by
  have hok := vok_any h
  by_cases hc : 0 ≤ c ∧ c < 8
  · obtain ⟨c, rfl⟩ := Int.eq_ofNat_of_zero_le hc.1
    have hc8 : c < 8 := by omega
    have hc8' : (c : Int) < 8 := by omega
    have q := (h.ses hc8).1
    have hkk : r.ses c = 0 := by
      unfold holOk at hn
      rw [Int.toNat_natCast] at hn
      omega
    rw [hkk] at q
    clear h hn hc hkk
    go_enter Tryz.func10, Tryz.ntmps10
    go_wp2_with (first
      | (go_at_call 23; refine hok.mono ?_; rintro e wt ⟨rfl, hw⟩; obtain rfl := hw.symm; clear hw)
      | fail)
    go_ret
    exact ⟨rfl, rfl⟩
  · clear h hn
    by_cases h0 : c < 0
    · clear hc
      go_enter Tryz.func10, Tryz.ntmps10
      go_wp2_with (first
        | (go_at_call 23; refine hok.mono ?_; rintro e wt ⟨rfl, hw⟩; obtain rfl := hw.symm; clear hw)
        | fail)
      go_ret
      exact ⟨rfl, rfl⟩
    · have h8 : 8 ≤ c := by omega
      have h0' : 0 ≤ c := by omega
      clear hc h0
      go_enter Tryz.func10, Tryz.ntmps10
      go_wp2_with (first
        | (go_at_call 23; refine hok.mono ?_; rintro e wt ⟨rfl, hw⟩; obtain rfl := hw.symm; clear hw)
        | fail)
      go_ret
      exact ⟨rfl, rfl⟩
set_option maxRecDepth 20000 in
set_option maxHeartbeats 4000000 in
theorem vsetholds_same (h : VAt w F FD v s g p l d r) (c : Nat) (hc8 : c < 8) (h0 : r.ses c ≠ 0) : Calls Tryz.prog 10 #[.pointer (some ⟨v, 0, none⟩), .int .i64 c, .bool (r.hol c)] w fun e w' => e = .returned (.int .i64 0) ∧ w' = w := by
  have hok := vok_any h
  obtain ⟨q, q2⟩ := h.ses hc8
  have hc8' : (c : Int) < 8 := by omega
  have d0 : ((r.ses c : Int) == 0) = false := beq_eq_false_iff_ne.2 (by omega)
  clear h h0
  generalize r.ses c = sc at *
  generalize r.hol c = hb at *
  go_enter Tryz.func10, Tryz.ntmps10
  cases hb
  all_goals
    go_wp2_with (first
      | (go_at_call 23; refine hok.mono ?_; rintro e wt ⟨rfl, hw⟩; obtain rfl := hw.symm; clear hw)
      | fail)
    go_ret
    exact ⟨rfl, rfl⟩
set_option maxRecDepth 20000 in
set_option maxHeartbeats 4000000 in
theorem vsetholds_ok (h : VAt w F FD v s g p l d r) (hok : l.ok d) (hrr : r.right = true) (c : Nat) (b : Bool) (hc8 : c < 8) (h0 : r.ses c ≠ 0) (hne : r.hol c ≠ b) (hQ : d.Q.length ≤ 999900000)
    (hok2 : (l.write d [(0, (r.with_ c (r.ses c) b).sec)]).2.2 = 8 → (l.check d).2.2 = 0 → (l.check d).1.ok (l.check d).2.1) : Calls Tryz.prog 10 #[.pointer (some ⟨v, 0, none⟩), .int .i64 c, .bool b] w
    fun e w' => VPost w F FD v s g p (stPut l d [(0, (r.with_ c (r.ses c) b).sec)]) (setRec (stPut l d [(0, (r.with_ c (r.ses c) b).sec)]).2.2 (r.with_ c (r.ses c) b) r) e w' := by
  have hvk := vok_any h
  obtain ⟨q, q2⟩ := h.ses hc8
  have hL := lies_rec h.blk
  have hag := aggR h.rl.len
  have hs40 : r.ses c < 1099511627776 := h.rl.cl _ (List.mem_of_getElem? (Rec.get_cl h.rl.len hc8))
  have hwi := ewith_any w.drew r h.rl.len c hc8 (r.ses c) b
  have hc8' : (c : Int) < 8 := by omega
  have hst : ∀ w2, VAt w2 F FD v s g p l d r → Calls Tryz.prog 22 #[.pointer (some ⟨v, 0, none⟩), .agg (recC (r.with_ c (r.ses c) b))] w2
    fun e w' => VPost w2 F FD v s g p (stPut l d [(0, (r.with_ c (r.ses c) b).sec)]) (setRec (stPut l d [(0, (r.with_ c (r.ses c) b).sec)]).2.2 (r.with_ c (r.ses c) b) r) e w' := fun w2 h2 => vset_any h2 hok _ (with_fits h.rl hs40) (with_right hrr h0) hQ hok2
  have d0 : ((r.ses c : Int) == 0) = false := beq_eq_false_iff_ne.2 (by omega)
  have HV := Lib.hid h
  have HST := Lib.hid hst
  clear h hok hrr hok2 hst h0
  generalize hsc : r.ses c = sc at *
  generalize hhc : r.hol c = hcc at *
  have hvl := lt_of_block HV.out.blk
  have hS : w.drew.cell? ⟨v, 2 + c * 2, none⟩ = some (.int .u64 (sc : Nat)) ∧ Lies w.drew v 1 (recC r) := ⟨q, hL⟩
  clear hsc hhc
  have heq : (hcc == b) = false := beq_eq_false_iff_ne.2 hne
  go_enter Tryz.func10, Tryz.ntmps10
  have main : True := trivial
  go_upto_region 7 with (first
    | (go_at_call 23; refine hvk.mono ?_; rintro e wt ⟨rfl, hw⟩; obtain rfl := hw.symm; clear hw)
    | fail)
  refine wp_region_x (fun w' => w'.cell? ⟨v, 2 + c * 2, none⟩ = some (.int .u64 (sc : Nat)) ∧ Lies w' v 1 (recC r)) [(0, 1), (1, 1), (2, 1), (3, 1), (4, 0), (5, 1), (6, 1), (7, 1), (8, 1), (9, 1), (10, 1), (11, 1), (12, 1), (13, 0), (14, 1), (15, 3), (16, 3), (17, 1)] (by kernel_rfl) (by kernel_rfl) (by intro d v c a w h; cases d <;> exact h) ?_
  iterate 4 (refine x_take rfl (fun K hK => ?_); go_simp; refine hK _ ?_; clear hK K)
  refine x_read rfl hS (fun w' h => exec_loadA hag rfl h.2) ?_
  iterate 8 (refine x_take rfl (fun K hK => ?_); go_simp; refine hK _ ?_; clear hK K)
  refine x_read rfl hS (fun w' h => exec_load1 ⟨⟨_, Tryz.underlying30, rfl⟩⟩ rfl h.1) ?_
  iterate 1 (refine x_take rfl (fun K hK => ?_); go_simp; refine hK _ ?_; clear hK K)
  refine x_exec' rfl (fun K hK => ?_)
  go_simp
  refine hwi.mono ?_
  rintro e w2 ⟨rfl, hb2⟩
  have hb2' : Below w.heap.size w w2 := (Below.refl _ _).drew.trans hb2
  have hV2 := HV.out.below hb2'
  refine hK _ _ ?_
  clear hK K hwi hS
  have hs2 := HST.out w2 hV2
  have HB2 := Lib.hid hb2'
  clear hb2 hb2' hV2 hL q q2
  refine x_exec' rfl (fun K hK => ?_)
  go_simp
  refine hs2.mono ?_
  rintro e w3 ⟨rfl, F3, FD3, hV3, hm3, h13, h23⟩
  refine hK _ _ ?_
  clear hK K
  iterate 1 (refine x_take rfl (fun K hK => ?_); go_simp; refine hK _ ?_; clear hK K)
  refine x_nil ?_
  have HP : Hid (VPost w F FD v s g p (stPut l d [(0, (r.with_ c sc b).sec)]) (setRec (stPut l d [(0, (r.with_ c sc b).sec)]).2.2 (r.with_ c sc b) r) (.returned (.int .i64 ((stPut l d [(0, (r.with_ c sc b).sec)]).2.2 : Nat))) w3) :=
    Lib.hid ⟨rfl, F3, FD3, hV3, ((Mod.of_below HB2.out).mono (T := fun b => (F b ∨ FD b) ∨ b = v) fun x hx hS => absurd hx (Nat.not_lt.2 hS)).trans hm3 (fun x h => h) (fun x _ h => h), fun b hb => (h13 b hb).imp id fun h => Nat.le_trans HB2.out.size h, fun b hb => (h23 b hb).imp id fun h => Nat.le_trans HB2.out.size h⟩
  clear hs2 hV3 hm3 h13 h23
  go_wp2
  go_ret
  exact HP.out
end
end Go.Proofs.YtipbaajdnnddgaaGreat

/- A vault is opened: walked. -/
namespace Go.Tn.Ino
def Rec.up (r : Rec) : Rec := { r with boot := r.boot + 1 }
end Go.Tn.Ino
namespace Go.Proofs.YtipbaajdnnddgaaGreat
open Go.RowKit Go.Tn Go.Tn.Bt Go.Tn.Lp Go.Tn.Dk Go.Tn.Ino
theorem built_v (s : Nat) : Tryz.prog.built 46 [(0, .pointer (some ⟨s, 0, none⟩))] = some (vltC s Rec.zero) := by kernel_rfl
theorem rec_zero_fits : Rec.zero.fits := ⟨by decide, rfl, fun c hc => by
  unfold Rec.zero at hc
  simp only [List.mem_cons, List.not_mem_nil, or_false, or_self] at hc
  rw [hc]
  decide⟩
theorem decR_some {B : List Nat} {r : Rec} (h : recI B = some r) : r.fits ∧ r.right = true := by
  unfold recI at h
  split at h
  · rename_i hh
    cases h
    exact ⟨recAt_fits B, hh.1⟩
  · cases h
/-- What Open leaves. -/
def VOpen (w : World) (FD : Nat → Prop) (p : Nat) (l : Lg) (d : Dsk) (r : Rec) (e : Ending) (w' : World) : Prop := ∃ v s g F FD', e = .returned (.tuple #[.pointer (some ⟨v, 0, none⟩), .int .i64 0]) ∧ VAt w' F FD' v s g p l d r ∧ Mod FD w w' ∧ (∀ b, F b → w.heap.size ≤ b) ∧ (∀ b, FD' b → FD b ∨ w.heap.size ≤ b) ∧ w.heap.size ≤ v
section
variable {w w' : World} {FD : Nat → Prop} {p : Nat} {l l' : Lg} {d d' : Dsk} {r : Rec}
set_option maxRecDepth 100000 in
set_option maxHeartbeats 4000000 in
theorem vopen_any (n : Int) (hfo : Calls Tryz.prog 19 #[.pointer (some ⟨p, 0, none⟩), .int .i64 n] w fun e w' => FOpen w FD p l d e w') (hFD : ∀ b, FD b → b < w.heap.size) (hok : l.ok d) (h0 : 0 < l.homes d) (hr : recI (l.home d 0) = some r) (hb : r.boot < 1099511627775) (hQ : d.Q.length ≤ 999900000)
    (hok2 : (l.write d [(0, r.up.sec)]).2.2 = 8 → (l.check d).2.2 = 0 → (l.check d).1.ok (l.check d).2.1) (hst : stPut l d [(0, r.up.sec)] = (l', d', 0)) :
    Calls Tryz.prog 7 #[.pointer (some ⟨p, 0, none⟩), .int .i64 n] w fun e w' => VOpen w FD p l' d' r.up e w' := by
  obtain ⟨hrf, hrr⟩ := decR_some hr
  have huf : r.up.fits := ⟨by show r.boot + 1 < 1099511627776; omega, hrf.len, hrf.cl⟩
  have hur : r.up.right = true := hrr
  have HB40 := Lib.hid hb
  have hb' : (r.boot : Int) < 1099511627775 := by omega
  have HFDL := Lib.hid hFD
  have HOK := Lib.hid hok
  have HR := Lib.hid hr
  have HOK2 := Lib.hid hok2
  have HST := Lib.hid hst
  have HRF := Lib.hid hrf
  have HUF := Lib.hid huf
  have HUR := Lib.hid hur
  clear hFD hok hr hok2 hst hrf hrr huf hur hb
  go_enter Tryz.func7, Tryz.ntmps7
  go_wp2_with fail
  refine hfo.mono ?_
  rintro e w2 ⟨s, g, F, FD2, rfl, hF2, hm2, hFn, hFDn, hsn⟩
  have hrc := frecord_any hF2 HOK.out h0
  have hsec := home_sec HOK.out hF2.disk.ok h0
  have HF2 := Lib.hid hF2
  have HM2 := Lib.hid hm2
  have HFN := Lib.hid hFn
  have HFDN := Lib.hid hFDn
  have HSEC := Lib.hid hsec
  clear hfo hF2 hm2 hFn hFDn hsec
  go_wp2_with fail
  refine hrc.mono ?_
  rintro e w3 ⟨vr, rfl, hO3, hb3⟩
  have hde := edec_any w3 vr _ hO3.sl HSEC.out.1 HSEC.out.2
  rw [HR.out, show decR (some r) = .tuple #[.agg (recC r), .int .i64 0] from rfl] at hde
  obtain ⟨a3, n3, c3, rfl⟩ : ∃ a n c, vr = .slice a n c := by
    obtain ⟨ao, cap, rfl, -⟩ := hO3.sl
    exact ⟨_, _, _, rfl⟩
  have HB3 := Lib.hid hb3
  clear hrc hO3 hb3
  go_wp2_with fail
  refine hde.mono ?_
  rintro e w4 ⟨rfl, hb4⟩
  have hag := aggR HRF.out.len
  have hone := recC_one r
  have hsz17 := recC_size HRF.out.len
  have hb24 : Below w2.heap.size w2 w4 := HB3.out.trans (hb4.mono HB3.out.size)
  have hk5 : (w4.alloc (.cells (recC r) 35)).heap[w4.heap.size]? = some (.cells (recC r) 35 (0, 0)) := heap_alloc_at
  have hb25 : Below w2.heap.size w2 (w4.alloc (.cells (recC r) 35)) := hb24.alloc hb24.size _
  have hz5 : (w4.alloc (.cells (recC r) 35)).heap.size = w4.heap.size + 1 := by simp
  have hs24 := hb24.size
  have q0 : (w4.alloc (.cells (recC r) 35)).cell? ⟨w4.heap.size, 0, none⟩ = some (.int .u64 (r.boot : Nat)) := cell_of hk5 rfl
  clear hde hb4 hb24
  go_upto_region 10 with (first
    | ((with_reducible refine wpList_storeA_new hag ?_ hone ?_ ?_ ?_); (rw [hsz17]; rfl); rfl; rfl; go_frame)
    | fail)
  generalize hrb : w4.heap.size = rb at *
  generalize w4.alloc (.cells (recC r) 35) = w5 at *
  have HZ5 := Lib.hid hz5
  have HS24 := Lib.hid hs24
  have HK5 := Lib.hid hk5
  have HB25 := Lib.hid hb25
  have hbv := built_v s
  clear hrb hz5 hs24 hk5 hb25
  have hnd : decide ((1099511627775 : Int) ≤ (r.boot : Int)) = false := decide_eq_false (by omega)
  have hnl : ¬ ((1099511627775 : Int) ≤ (r.boot : Int)) := by omega
  have HQ := Lib.hid hQ
  have H0 := Lib.hid h0
  clear hQ h0 hone hsz17 hag hb' hnl hsn
  generalize hbt : r.boot = bt at q0 hnd
  have HBT := Lib.hid hbt
  clear hbt
  go_upto_region 12 with fail
  clear hnd
  have hk6 : (w5.alloc (.cells (vltC s Rec.zero) 46)).heap[rb]? = some (.cells (recC r) 35 (0, 0)) := heap_alloc_of HK5.out
  have hv6 : (w5.alloc (.cells (vltC s Rec.zero) 46)).heap[w5.heap.size]? = some (.cells (vltC s Rec.zero) 46 (0, 0)) := heap_alloc_at
  have hb26 : Below w2.heap.size w2 (w5.alloc (.cells (vltC s Rec.zero) 46)) := HB25.out.alloc HB25.out.size _
  have hz6 : (w5.alloc (.cells (vltC s Rec.zero) 46)).heap.size = w5.heap.size + 1 := by simp
  have HK6 := Lib.hid hk6
  have HV6 := Lib.hid hv6
  have HB26 := Lib.hid hb26
  have HZ6 := Lib.hid hz6
  clear hk6 hv6 hb26 hz6 q0
  have hbv := built_v s
  go_upto_region 13 with (first
    | ((with_reducible refine wpList_exec rfl (exec_buildA (vals := [(0, .pointer (some ⟨s, 0, none⟩))]) ?_ hbv) ?_); rfl; go_frame)
    | fail)
  clear hbv
  generalize hvv : w5.heap.size = v at *
  generalize w5.alloc (.cells (vltC s Rec.zero) 46) = w6 at *
  have q6 : w6.cell? ⟨rb, 0, none⟩ = some (.int .u64 (bt : Nat)) := by rw [← HBT.out]; exact cell_of HK6.out (recC_0 r)
  have f6 : w6.frozen? ⟨rb, 0, none⟩ = false := free_of HK6.out
  have hb40 : (bt : Int) < 1099511627775 := by rw [← HBT.out]; have := HB40.out; omega
  clear hvv
  go_upto_region 14 with fail
  have hm7 := (Mod.refl (fun x => x = rb) w6).setCell ⟨rb, 0, none⟩ (.int .u64 ((bt : Int) + 1)) (fun _ => rfl)
  have hk7 : (w6.setCell ⟨rb, 0, none⟩ (.int .u64 ((bt : Int) + 1))).heap[rb]? = some (.cells (recC r.up) 35 (0, 0)) := by
    rw [heap_setCell_at HK6.out, show ((bt : Int) + 1) = ((r.boot + 1 : Nat) : Int) by rw [HBT.out]; rfl, recC_set0]
    rfl
  have h2r : w2.heap.size ≤ rb := HS24.out
  have hvr : v = rb + 1 := HZ5.out
  have hb27 : Below w2.heap.size w2 (w6.setCell ⟨rb, 0, none⟩ (.int .u64 ((bt : Int) + 1))) := HB26.out.trans (hm7.below HB26.out.size fun x hx e => by omega)
  have hv7 := hm7.heap HV6.out (fun e => by omega)
  have hsl := lt_of_block HF2.out.blk
  have hV7 : VAt (w6.setCell ⟨rb, 0, none⟩ (.int .u64 ((bt : Int) + 1))) F FD2 v s g p l d Rec.zero :=
    ⟨hv7, HF2.out.below hb27, rec_zero_fits, by omega, fun h => by have := HF2.out.log.lt v h; omega, fun h => by have := HF2.out.disk.lt v h; omega⟩
  generalize w6.setCell ⟨rb, 0, none⟩ (.int .u64 ((bt : Int) + 1)) = w7 at *
  have hL7 := lies_of hk7
  have hagu := aggR HUF.out.len
  have hst := vset_any hV7 HOK.out r.up HUF.out HUR.out HQ.out HOK2.out
  rw [HST.out] at hst
  have HB27 := Lib.hid hb27
  have HVL := Lib.hid (show w2.heap.size ≤ v by omega)
  have hm2s := HM2.out.size
  clear hm7 hk7 h2r hvr hb27 hv7 hsl hV7 q6 f6 hb40 HB26 HK6 HV6 HK5 HB25 HZ5 HZ6 HS24
  go_wp2_with (first
    | ((with_reducible refine wpList_loadA hagu hL7 ?_ ?_); rfl; go_frame)
    | fail)
  refine hst.mono ?_
  rintro e w8 ⟨rfl, F8, FD8, hV8, hm8, h18, h28⟩
  have hV8 : VAt w8 F8 FD8 v s g p l' d' r.up := hV8
  have hm28 : Mod FD w w8 := (HM2.out.trans (Mod.of_below HB27.out) (T := FD) (fun x h => h) (fun x hx h => absurd (Nat.lt_of_lt_of_le hx hm2s) (Nat.not_lt.2 h))).trans hm8 (fun x h => h) (fun x hx h => by
    rcases h with (h | h) | h
    · exact absurd (HFN.out x h) (Nat.not_le.2 hx)
    · rcases HFDN.out x h with h | h
      · exact h
      · omega
    · have := HVL.out
      have : x = v := h
      omega)
  have hsz7 := HB27.out.size
  have HP : Hid (VOpen w FD p l' d' r.up (.returned (.tuple #[.pointer (some ⟨v, 0, none⟩), .int .i64 0])) w8) := Lib.hid ⟨v, s, g, F8, FD8, rfl, hV8, hm28, fun b hb => (h18 b hb).elim (HFN.out b) (fun h => by omega), fun b hb => (h28 b hb).elim (HFDN.out b) (fun h => .inr (by omega)), by have := HVL.out; omega⟩
  clear hst hV8 hm8 h18 h28 hm28 hL7 hm2s hsz7
  go_wp2
  go_ret2
  exact HP.out
end
end Go.Proofs.YtipbaajdnnddgaaGreat
