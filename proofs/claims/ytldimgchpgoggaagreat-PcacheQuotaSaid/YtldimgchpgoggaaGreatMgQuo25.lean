/- Blocks that are kept: in memory; blocks as keys. -/
import Derived.Test.YtldimgchpgoggaaGreatMgQuo22
import Derived.Test.YtldimgchpgoggaaGreatMgQuo20
import Derived.Test.YtldimgchpgoggaaGreatMgQuo23
import Derived.Test.YtldimgchpgoggaaGreatMgQuo24
import Derived.Test.YtldimgchpgoggaaGreatMgQuo21
/- A disk with a fuse: what its calls may leave. Plain. -/
namespace Go.Proofs.YtldimgchpgoggaaGreat
open Go.RowKit Go.Tn Go.Tn.Bt Go.Tn.Lp Go.Tn.Dk
theorem live_write {d : Dsk} (i : Nat) (b : List Nat) :
    (d.dead = 7 ∧ (d.write i b).off = true ∧ (d.write i b).L = d.L ∧ (d.write i b).Q = d.Q) ∨ (d.dead = 0 ∧ (d.write i b).off = false ∧ (d.write i b).L = d.L ∧ (d.write i b).Q = d.Q ++ [(i, b)]) := by
  unfold Dsk.write Dsk.dead
  by_cases hs : d.step.off = true
  · rw [if_pos hs, if_pos hs]
    exact .inl ⟨rfl, hs, step_L d, step_Q d⟩
  · rw [if_neg hs, if_neg hs]
    exact .inr ⟨rfl, by simpa using hs, step_L d, rfl⟩
theorem live_flush {d : Dsk} :
    (d.dead = 7 ∧ d.flush.off = true ∧ d.flush.L = d.L ∧ d.flush.Q = d.Q) ∨ (d.dead = 0 ∧ d.flush.off = false ∧ d.flush.L = laid d.Q d.L ∧ d.flush.Q = []) := by
  unfold Dsk.flush Dsk.dead
  by_cases hs : d.step.off = true
  · rw [if_pos hs, if_pos hs]
    exact .inl ⟨rfl, hs, step_L d, step_Q d⟩
  · rw [if_neg hs, if_neg hs]
    exact .inr ⟨rfl, by simpa using hs, rfl, rfl⟩
theorem putPcs_live (n : Nat) : ∀ (ps : List Pc) (d : Dsk), d.off = false →
    ((putPcs n ps d).2 = 0 ∧ (putPcs n ps d).1.off = false ∧ (putPcs n ps d).1.L = d.L ∧ (putPcs n ps d).1.Q = d.Q ++ ringQ n ps) ∨
    ((putPcs n ps d).2 = 7 ∧ (putPcs n ps d).1.off = true ∧ (putPcs n ps d).1.L = d.L ∧ ∃ m, (putPcs n ps d).1.Q = d.Q ++ ringQ n (ps.take m))
  | [], d, h => .inl ⟨rfl, h, rfl, by simp [putPcs, ringQ]⟩
  | q :: r, d, _ => by
    simp only [putPcs]
    rcases live_write (d := d) (2 + q.ct % n) (sealB q) with ⟨h1, h2, h3, h4⟩ | ⟨h1, h2, h3, h4⟩
    · rw [if_pos (by rw [h1]; decide)]
      exact .inr ⟨h1, h2, h3, 0, by rw [h4]; simp [ringQ]⟩
    · rw [if_neg (by rw [h1]; decide)]
      rcases putPcs_live n r (d.write (2 + q.ct % n) (sealB q)) h2 with ⟨e1, e2, e3, e4⟩ | ⟨e1, e2, e3, m, e4⟩
      · exact .inl ⟨e1, e2, e3.trans h3, by rw [e4, h4]; simp [ringQ]⟩
      · exact .inr ⟨e1, e2, e3.trans h3, m + 1, by rw [e4, h4]; simp [ringQ]⟩
/-- The homes that records leave. -/
def homesOf (n : Nat) (d : Dsk) (H : Nat → Option (List Nat)) : List (List Nat) := (List.range (d.L.length - 2 - n)).map fun k => (H k).getD (d.get (2 + n + k))
theorem homesOf_same {n : Nat} {d d' : Dsk} {H : Nat → Option (List Nat)} (hL : d'.L.length = d.L.length) (h : ∀ k, k < d.L.length - 2 - n → H k = none → d'.get (2 + n + k) = d.get (2 + n + k)) : homesOf n d' H = homesOf n d H := by
  unfold homesOf
  rw [hL]
  refine List.map_congr_left fun k hk => ?_
  cases hH : H k with
  | some b => rfl
  | none => exact h k (List.mem_range.1 hk) hH
/-- What a crash may leave is one of these. -/
def Outs (n i : Nat) (d : Dsk) (S : List (List (List Nat))) : Prop := ∀ keep torn, ∃ gen tail F D, Says (d.crash keep torn) n gen tail F D ∧ gen ≤ i ∧ endCt tail D ≤ 100 * i ∧ F ≤ 16777215 ∧
  (∀ j, j < 2 + n → SectA (256 * i + 255) ((d.crash keep torn).get j)) ∧ homesOf n (d.crash keep torn) (applyH (fun _ => none) D) ∈ S
/-- The homes that the first ones of the records leave. -/
def steps (n : Nat) (d : Dsk) (D P : List Rc) : List (List (List Nat)) := (List.range (P.length + 1)).map fun j => homesOf n d (applyH (fun _ => none) (D ++ P.take j))
theorem steps_mem {n : Nat} {d : Dsk} {D P : List Rc} {j : Nat} (hj : j ≤ P.length) : homesOf n d (applyH (fun _ => none) (D ++ P.take j)) ∈ steps n d D P := List.mem_map.2 ⟨j, List.mem_range.2 (by omega), rfl⟩
structure KLive (n i : Nat) (l : Lg) (d : Dsk) (S : List (List (List Nat))) : Prop where
  ex : ∃ F D P, Rg d l F D P ∧ F ≤ 16777215 ∧ S = steps n d.last D P
  kp : Keep d.last l
  on : d.off = false
  err : l.err = 0
  rn : l.n = n
  ep : l.epoch ≤ 256 * i + 1
  nx : l.next ≤ 100 * i
  gen : l.gen ≤ i
structure KDead (n i : Nat) (l : Lg) (d : Dsk) (S : List (List (List Nat))) : Prop where
  outs : Outs n i d S
  off : d.off = true
  err : l.err = 7
  rn : l.n = n
  fit : l.fit d
  nx : l.next ≤ 100 * i
  dok : d.ok
/-- Where the power is on: a crash leaves one of the states. -/
theorem live_outs {n i : Nat} {d : Dsk} {l : Lg} {F : Nat} {D P : List Rc} {m : Nat} (hb : Base d.last l F D) (hk : Keep d.last l) (hfit : l.fit d) (hd : d.ok) (hg : Goods (l.homes d) l.epoch (endCt l.tail D) P) (hroom : endCt (endCt l.tail D) P ≤ l.tail + l.n)
    (hQ : d.Q = ringQ l.n ((allPcs (endCt l.tail D) P).take m)) (hn : l.n = n) (hF : F ≤ 16777215) (hgen : l.gen ≤ i) (hnx : endCt (endCt l.tail D) P ≤ 100 * i) (hep : l.epoch ≤ 256 * i + 1) : Outs n i d (steps n d.last D P) := by
  intro keep torn
  subst hn
  obtain ⟨⟨j, hj, hs⟩, hse, hho⟩ := crash_ring (keep := keep) (torn := torn) hb hk hfit hd hg hroom hQ
  refine ⟨l.gen, l.tail, F, _, hs, hgen, ?_, hF, fun k hk => (hse k hk).mono (by omega), ?_⟩
  · rw [endCt_append]
    have h1 : endCt (endCt l.tail D) (P.take j) ≤ endCt (endCt l.tail D) P := by
      conv => rhs; rw [← List.take_append_drop j P]
      rw [endCt_append]
      have := endCt_le (P.drop j) (endCt (endCt l.tail D) (P.take j))
      omega
    omega
  · rw [homesOf_same (d := d.last) (crash_L d keep torn) fun k _ _ => hho k]
    exact steps_mem hj
end Go.Proofs.YtldimgchpgoggaaGreat

/- A disk with a fuse: what a write leaves. Plain. -/
namespace Go.Proofs.YtldimgchpgoggaaGreat
open Go.RowKit Go.Tn Go.Tn.Bt Go.Tn.Lp Go.Tn.Dk
theorem Base.congr {d d' : Dsk} {l l' : Lg} {F : Nat} {D : List Rc} (hb : Base d l F D) (ht : l.tail ≤ endCt l.tail D) (hL : d'.L.length = d.L.length) (hn2 : 2 ≤ l.n) (hg : ∀ i, i < 2 + l.n → d'.get i = d.get i) (h1 : l'.n = l.n) (h2 : l'.epoch = l.epoch) (h3 : l'.gen = l.gen) (h4 : l'.tail = l.tail) : Base d' l' F D := by
  have hlt : ∀ c, 2 + c % l.n < 2 + l.n := fun c => by have := Nat.mod_lt c (show 0 < l.n by omega); omega
  have hh : l'.homes d' = l.homes d := by unfold Lg.homes; rw [hL, h1]
  refine ⟨by rw [h3, h4]; exact hb.hd.same fun i hi => hg i (by omega), by rw [hh, h4]; exact hb.rise, fun q hq => ?_, by rw [h4, h1]; exact hb.room, by rw [h2]; exact hb.fle, ?_, fun c q c1 c2 hq => ?_⟩
  · rw [h4] at hq
    rw [h1, hg _ (hlt _)]
    exact hb.slots q hq
  · rw [h1, h2, h3, h4]
    exact hb.stop.imp id fun hs => stepB_same' hL ht (fun c _ _ => pieceB_same (hg _ (hlt _))) hs
  · rw [h4] at c1 c2
    rw [h1] at c2 hq
    rw [h2]
    exact hb.old c q c1 c2 ((pieceB_same (hg _ (hlt _))).symm.trans hq)
theorem Keep.congr {d d' : Dsk} {l l' : Lg} (h : Keep d l) (hg : ∀ i, i < 2 + l.n → d'.get i = d.get i) (h0 : ∀ i, i < 2 → d'.get i = d.get i) (h1 : l'.n = l.n) (h2 : l'.epoch = l.epoch) (h3 : l'.gen = l.gen) : Keep d' l' :=
  ⟨fun i hi => by rw [h1] at hi; rw [hg i hi, h2]; exact h.sect i hi, fun i hi p hp hpe => by rw [h0 i hi] at hp; rw [h2] at hpe; rw [h3]; exact h.hdct i hi p hp hpe, by rw [h2]; exact h.ep⟩
theorem homesB_of (l : Lg) (d : Dsk) : homesB l d = homesOf l.n d l.H := by
  unfold homesB homesOf
  exact List.map_congr_left fun k _ => home_getD l d k
/-- The homes that a log shows are those that its records leave. -/
theorem Rg.homes_eq {d : Dsk} {l : Lg} {F : Nat} {D P : List Rc} (h : Rg d l F D P) : homesB l d = homesOf l.n d.last (applyH (fun _ => none) (D ++ P)) := by
  rw [homesB_of, h.H]
  exact homesOf_same (d := d.last) rfl fun k _ _ => h.rest fun q _ => by have := h.fit.n2; have := Nat.mod_lt q.ct (show 0 < l.n by omega); omega
theorem steps_last {n : Nat} {d : Dsk} {D P : List Rc} : ∃ S0, steps n d D P = S0 ++ [homesOf n d (applyH (fun _ => none) (D ++ P))] := by
  unfold steps
  rw [List.range_succ, List.map_append, List.map_singleton, List.take_length]
  exact ⟨_, rfl⟩
theorem KLive.last {n i : Nat} {l : Lg} {d : Dsk} {S : List (List (List Nat))} (h : KLive n i l d S) : ∃ S0, S = S0 ++ [homesB l d] := by
  obtain ⟨F, D, P, hr, hF, rfl⟩ := h.ex
  obtain ⟨S0, e⟩ := steps_last (n := n) (d := d.last) (D := D) (P := P)
  exact ⟨S0, by rw [e, hr.homes_eq, h.rn]⟩
theorem KLive.mono {n i j : Nat} {l : Lg} {d : Dsk} {S : List (List (List Nat))} (h : KLive n i l d S) (hij : i ≤ j) : KLive n j l d S :=
  ⟨h.ex, h.kp, h.on, h.err, h.rn, by have := h.ep; omega, by have := h.nx; omega, by have := h.gen; omega⟩
theorem KDead.mono {n i j : Nat} {l : Lg} {d : Dsk} {S : List (List (List Nat))} (h : KDead n i l d S) (hij : i ≤ j) : KDead n j l d S :=
  ⟨fun keep torn => by
    obtain ⟨gen, tail, F, D, h1, h2, h3, h4, h5, h6⟩ := h.outs keep torn
    exact ⟨gen, tail, F, D, h1, by omega, by omega, h4, fun k hk => (h5 k hk).mono (by omega), h6⟩, h.off, h.err, h.rn, h.fit, by have := h.nx; omega, h.dok⟩
theorem KLive.outs {n i : Nat} {l : Lg} {d : Dsk} {S : List (List (List Nat))} (h : KLive n i l d S) : Outs n i d S := by
  obtain ⟨F, D, P, hr, hF, rfl⟩ := h.ex
  have hn := hr.next
  have h1 := hr.fit.next
  have h2 := h.nx
  refine live_outs (m := (allPcs (endCt l.tail D) P).length) hr.base h.kp hr.fit hr.dok hr.gs (by omega) (by rw [List.take_length]; exact hr.q) h.rn hF h.gen (by omega) h.ep
end Go.Proofs.YtldimgchpgoggaaGreat

/- A disk with a fuse: Sync, a crash, a new disk. Plain. -/
namespace Go.Proofs.YtldimgchpgoggaaGreat
open Go.RowKit Go.Tn Go.Tn.Bt Go.Tn.Lp Go.Tn.Dk
theorem Keep.flush {d d' : Dsk} {l l' : Lg} {F : Nat} {D P : List Rc} (h : Rg d l F D P) (hk : Keep d.last l) (hL : d'.L = laid d.Q d.L) (h1 : l'.n = l.n) (h2 : l'.epoch = l.epoch) (h3 : l'.gen = l.gen) : Keep d'.last l' := by
  have hnd := h.fit.nd
  have hg : ∀ i, i < d.L.length → d'.last.get i = d.get i := fun i hi => by
    rw [last_get, hL, laid_get _ _ _ hi]
    rfl
  have hpb := pcs_byte P _ h.gs
  refine ⟨fun i hi => ?_, fun i hi p hp hpe => ?_, by rw [h2]; exact hk.ep⟩
  · rw [h1] at hi
    rw [hg i (by omega), h2, get_last]
    rcases seen_or d.Q i (d.last.get i) with e | ⟨x, hx, _, e⟩
    · rw [e]
      exact hk.sect i hi
    · rw [e]
      rw [h.q] at hx
      obtain ⟨q, hq, rfl⟩ := List.mem_map.1 hx
      obtain ⟨hqo, hqb, hqe⟩ := hpb q hq
      have := seal_sect hqo hqb
      rw [hqe] at this
      exact this
  · rw [hg i (by omega), h.rest (fun q _ => by omega)] at hp
    rw [h3]
    exact hk.hdct i hi p hp (by rw [← h2]; exact hpe)
end Go.Proofs.YtldimgchpgoggaaGreat

/- A disk with a fuse: Checkpoint. Plain. -/
namespace Go.Proofs.YtldimgchpgoggaaGreat
open Go.RowKit Go.Tn Go.Tn.Bt Go.Tn.Lp Go.Tn.Dk
end Go.Proofs.YtldimgchpgoggaaGreat

/- RedoKept: what it keeps, whole. Plain. -/
namespace Go.Proofs.YtldimgchpgoggaaGreat
open Go.RowKit Go.Tn Go.Tn.Bt Go.Tn.Lp Go.Tn.Dk
theorem kwrite_Q (d : Dsk) (i : Nat) (b : List Nat) : (d.write i b).Q.length ≤ d.Q.length + 1 := by
  rcases live_write (d := d) i b with ⟨-, -, -, h⟩ | ⟨-, -, -, h⟩
  · rw [h]; omega
  · rw [h, List.length_append, List.length_singleton]; exact Nat.le_refl _
theorem flush_Q (d : Dsk) : d.flush.Q.length ≤ d.Q.length := by
  rcases live_flush (d := d) with ⟨-, -, -, h⟩ | ⟨-, -, -, h⟩
  · rw [h]; exact Nat.le_refl _
  · rw [h]; exact Nat.zero_le _
theorem putPcs_Q (n : Nat) : ∀ (ps : List Pc) (d : Dsk), (putPcs n ps d).1.Q.length ≤ d.Q.length + ps.length
  | [], d => Nat.le_refl _
  | q :: r, d => by
    have h1 := kwrite_Q d (2 + q.ct % n) (sealB q)
    have h2 := putPcs_Q n r (d.write (2 + q.ct % n) (sealB q))
    rw [putPcs, List.length_cons]
    split
    · simp only; omega
    · omega
theorem kbringGo_Q (l : Lg) : ∀ (ks : List Nat) (d : Dsk), (bringGo l ks d).1.Q.length ≤ d.Q.length + ks.length
  | [], d => flush_Q d
  | k :: ks, d => by
    have h1 := kwrite_Q d (2 + l.n + k) ((l.H k).getD [])
    have h2 := kbringGo_Q l ks (d.write (2 + l.n + k) ((l.H k).getD []))
    rw [bringGo, List.length_cons]
    split
    · simp only; omega
    · omega
theorem save_Q (d : Dsk) (a ep : Nat) (x : Hd) : (d.save a ep x).1.Q.length ≤ d.Q.length + 1 := by
  unfold Dsk.save
  split
  · rw [step_Q]; omega
  · have h1 := kwrite_Q d (a + x.gen % 2) (sealB (headPc ep x))
    have h2 := flush_Q (d.write (a + x.gen % 2) (sealB (headPc ep x)))
    simp only
    omega
theorem lsync_Q {l : Lg} {d : Dsk} : (l.sync d).2.Q.length ≤ d.Q.length ∧ (l.sync d).2.L.length = d.L.length := by
  unfold Lg.sync
  split
  · exact ⟨Nat.le_refl _, rfl⟩
  · exact ⟨flush_Q d, flush_L d⟩
theorem kbringGo_L (l : Lg) : ∀ (ks : List Nat) (d : Dsk), (bringGo l ks d).1.L.length = d.L.length
  | [], d => flush_L d
  | k :: ks, d => by
    rw [bringGo]
    split
    · show (d.write _ _).L.length = _
      rw [write_L]
    · rw [kbringGo_L l ks, write_L]
theorem ksave_L (d : Dsk) (a ep : Nat) (x : Hd) : (d.save a ep x).1.L.length = d.L.length := by
  unfold Dsk.save
  split
  · rw [step_L]
  · show (Dsk.flush _).L.length = _
    rw [flush_L, write_L]
theorem lcheck_Q {l : Lg} {d : Dsk} (hd : d.L.length ≤ 4096) : (l.check d).2.1.Q.length ≤ d.Q.length + 5000 ∧ (l.check d).2.1.L.length = d.L.length := by
  obtain ⟨s1, s2⟩ := lsync_Q (l := l) (d := d)
  unfold Lg.check
  generalize (l.sync d).2 = d1 at *
  generalize (l.sync d).1 = l1 at *
  have hk : (l.keys d1).length ≤ 4096 := by
    unfold Lg.keys Lg.homes
    have h1 := List.length_filter_le (fun k => (l.H k).isSome) (List.range (d1.L.length - 2 - l.n))
    rw [List.length_range] at h1
    omega
  have b1 : (l.bring d1).1.Q.length ≤ d1.Q.length + (l.keys d1).length := kbringGo_Q l _ d1
  have b2 : (l.bring d1).1.L.length = d1.L.length := kbringGo_L l _ d1
  have c1 := save_Q (l.bring d1).1 0 l.epoch ⟨l.gen + 1, l.next, l.epoch⟩
  have c2 := ksave_L (l.bring d1).1 0 l.epoch ⟨l.gen + 1, l.next, l.epoch⟩
  split
  · exact ⟨by simp only; omega, s2⟩
  · split
    · exact ⟨by simp only; omega, s2⟩
    · split
      · exact ⟨by simp only; omega, b2.trans s2⟩
      · split
        · exact ⟨by simp only; omega, by simp only; omega⟩
        · exact ⟨by simp only; omega, by simp only; omega⟩
def KInv (n i : Nat) (l : Lg) (d : Dsk) (S : List (List (List Nat))) : Prop := KLive n i l d S ∨ KDead n i l d S
theorem KInv.ok {n i : Nat} {l : Lg} {d : Dsk} {S : List (List (List Nat))} (h : KInv n i l d S) (hi : i ≤ 1000) : l.ok d := by
  rcases h with h | h
  · obtain ⟨F, D, P, hr, -, -⟩ := h.ex
    exact hr.fit.ok (by have := h.nx; omega)
  · exact h.fit.ok (by have := h.nx; omega)
theorem KInv.rn {n i : Nat} {l : Lg} {d : Dsk} {S : List (List (List Nat))} (h : KInv n i l d S) : l.n = n := by
  rcases h with h | h
  · exact h.rn
  · exact h.rn
theorem KInv.mono {n i j : Nat} {l : Lg} {d : Dsk} {S : List (List (List Nat))} (h : KInv n i l d S) (hij : i ≤ j) : KInv n j l d S := h.imp (·.mono hij) (·.mono hij)
theorem KInv.outs {n i : Nat} {l : Lg} {d : Dsk} {S : List (List (List Nat))} (h : KInv n i l d S) : Outs n i d S := by
  rcases h with h | h
  · exact h.outs
  · exact h.outs
end Go.Proofs.YtldimgchpgoggaaGreat

/- Disks stay disks. Plain. -/
namespace Go.Proofs.YtldimgchpgoggaaGreat
open Go.RowKit Go.Tn Go.Tn.Bt Go.Tn.Lp Go.Tn.Dk
theorem putPcs_ok {n : Nat} (hn : 1 ≤ n) : ∀ (ps : List Pc) (d : Dsk), d.ok → 2 + n ≤ d.L.length → (∀ q ∈ ps, (∀ x ∈ q.da, x < 256) ∧ q.da.length ≤ 106) → d.Q.length + ps.length < 1000000000 → (putPcs n ps d).1.ok
  | [], d, hd, _, _, _ => hd
  | q :: r, d, hd, hL, hq, hQ => by
    have hqq := hq q (List.mem_cons_self ..)
    have hm := Nat.mod_lt q.ct (show 0 < n by omega)
    rw [List.length_cons] at hQ
    have h1 : (d.write (2 + q.ct % n) (sealB q)).ok := hd.write (by omega) ⟨sealB_len _, sealB_lt _ hqq.1 hqq.2⟩ (by omega)
    have hq1 := kwrite_Q d (2 + q.ct % n) (sealB q)
    rw [putPcs]
    split
    · exact h1
    · exact putPcs_ok hn r _ h1 (by rw [write_L]; exact hL) (fun p hp => hq p (List.mem_cons_of_mem _ hp)) (by omega)
theorem cutL_da {bs : List Nat} (h : ∀ x ∈ bs, x < 256) (ep ct : Nat) : ∀ q ∈ cutL ep ct bs, (∀ x ∈ q.da, x < 256) ∧ q.da.length ≤ 106 := fun q hq => by
  unfold cutL at hq
  obtain ⟨i, -, rfl⟩ := List.mem_map.1 hq
  exact ⟨pieceAt_lt h ep ct i, pieceAt_len ep ct bs i⟩
theorem write_dok {l : Lg} {d : Dsk} {ps : List Pt} (hf : l.fit d) (hd : d.ok) (hQ : d.Q.length ≤ 999000000) : (l.write d ps).2.1.ok := by
  unfold Lg.write
  split
  · exact hd
  · cases ht : transB ps (l.homes d) with
    | false => exact hd
    | true =>
      rw [if_neg (by simp)]
      have hn := recN ht
      have hn2 := hf.n2
      have hnd := hf.nd
      unfold cutB
      split
      · exact hd
      · rename_i x pcs hc
        obtain rfl : cutL l.epoch l.next (recB ps) = pcs := by
          split at hc
          · cases hc
          · split at hc
            · cases hc
            · cases hc
              rfl
        split
        · exact hd
        · have hp := putPcs_ok (n := l.n) (by omega) (cutL l.epoch l.next (recB ps)) d hd (by omega) (cutL_da (pack_lt _) _ _) (by rw [cutL_len]; omega)
          split
          · exact hp
          · exact hp
theorem sync_dok {l : Lg} {d : Dsk} (hd : d.ok) : (l.sync d).2.ok := by
  unfold Lg.sync
  split
  · exact hd
  · exact hd.flush
theorem bringGo_ok {l : Lg} : ∀ (ks : List Nat) (d : Dsk), d.ok → (∀ k ∈ ks, 2 + l.n + k < d.L.length ∧ secB ((l.H k).getD [])) → d.Q.length + ks.length < 1000000000 → (bringGo l ks d).1.ok
  | [], d, hd, _, _ => hd.flush
  | k :: ks, d, hd, hk, hQ => by
    have hkk := hk k (List.mem_cons_self ..)
    rw [List.length_cons] at hQ
    have h1 : (d.write (2 + l.n + k) ((l.H k).getD [])).ok := hd.write hkk.1 hkk.2 (by omega)
    have hq1 := kwrite_Q d (2 + l.n + k) ((l.H k).getD [])
    rw [bringGo]
    split
    · exact h1
    · exact bringGo_ok ks _ h1 (fun j hj => by rw [write_L]; exact hk j (List.mem_cons_of_mem _ hj)) (by omega)
theorem save_ok {d : Dsk} (hd : d.ok) {a ep : Nat} {x : Hd} (ha : a + 1 < d.L.length) (hQ : d.Q.length ≤ 999000000) : (d.save a ep x).1.ok := by
  unfold Dsk.save
  split
  · exact hd.step
  · have hm := Nat.mod_lt x.gen (show 0 < 2 by decide)
    exact (hd.write (by omega) (headPc_sec _ _) (by omega)).flush
theorem check_dok {l : Lg} {d : Dsk} (hf : l.fit d) (hd : d.ok) (hQ : d.Q.length ≤ 998000000) : (l.check d).2.1.ok := by
  have hsf := sync_fit hf
  have hsd := sync_dok (l := l) hd
  obtain ⟨s1, s2⟩ := lsync_Q (l := l) (d := d)
  unfold Lg.check
  generalize (l.sync d).2 = d1 at *
  have hn : (l.sync d).1.n = l.n := by
    unfold Lg.sync
    split <;> rfl
  have hH : (l.sync d).1.H = l.H := by
    unfold Lg.sync
    split <;> rfl
  have hh4 := hsd.hi
  have hnd := hf.nd
  have hb : (l.bring d1).1.ok := by
    refine bringGo_ok _ _ hsd (fun k hk => ?_) ?_
    · obtain ⟨h1, b, h2⟩ := mem_keys hk
      unfold Lg.homes at h1
      rw [h2]
      refine ⟨by omega, ?_⟩
      have := hsf.H k b (by rw [hH]; exact h2)
      exact this.2
    · have h1 := List.length_filter_le (fun k => (l.H k).isSome) (List.range (l.homes d1))
      rw [List.length_range] at h1
      unfold Lg.keys
      unfold Lg.homes at h1
      unfold Lg.homes
      omega
  have hbL : (l.bring d1).1.L.length = d1.L.length := kbringGo_L l _ d1
  have hbQ : (l.bring d1).1.Q.length ≤ d1.Q.length + (l.keys d1).length := kbringGo_Q l _ d1
  have hk : (l.keys d1).length ≤ 4096 := by
    unfold Lg.keys Lg.homes
    have h1 := List.length_filter_le (fun k => (l.H k).isSome) (List.range (d1.L.length - 2 - l.n))
    rw [List.length_range] at h1
    omega
  split
  · exact hsd
  · split
    · exact hsd
    · split
      · exact hb
      · have hs := save_ok hb (a := 0) (ep := l.epoch) (x := ⟨l.gen + 1, l.next, l.epoch⟩) (by omega) (by omega)
        split
        · exact hs
        · exact hs
end Go.Proofs.YtldimgchpgoggaaGreat

/- Blocks that are kept: in memory; blocks as keys. -/
namespace Go.Proofs.YtldimgchpgoggaaGreat
open Go.RowKit Go.Tn Go.Tn.Bt Go.Tn.Lp Go.Tn.Dk Go.Tn.Ino Go.Tn.Slo Go.Tn.Ck Go.Tn.Pc
def encB (a : Blk) : Value := .agg (blC a)
theorem keyB : KeyOK Tryz.prog 35 encB where
  now := ⟨_, Tryz.underlying35, fun a b => .inl rfl⟩
  eq := fun w a b => by
    obtain ⟨i, g, x⟩ := a
    obtain ⟨i', g', x'⟩ := b
    have : decide (((i, g, x) : Blk) = (i', g', x')) = (i == i' && g == g' && x == x') := by
      rw [Bool.eq_iff_iff]; simp [and_assoc]
    rw [this]
    simp [encB, Op.equal, Op.maxDepth, go_sem, Program.fieldsOf, Tryz.underlying35, Tryz.underlying33, Op.eqFields, part, isAgg]
    repeat' split
    all_goals simp_all
  chk := fun e w a => by
    have h : ∀ n, (Instr.checkKey e (n + 6) 35 (encB a)).run Tryz.prog w = .ok () w := fun n => by
      simp [encB, Instr.checkKey, underlying, part, go_sem]
    exact h 9994
  bits := fun a => by simp [encB, Instr.sameBits]
theorem aggBl (a : Blk) : AggT Tryz.prog 35 (blC a).size := ⟨⟨_, Tryz.underlying35, rfl⟩, by kernel_rfl⟩
theorem elSl : ElT Tryz.prog 45 42 7 enSl := ⟨Tryz.underlying45, by kernel_rfl, by decide, fun _ => rfl, fun x u hu => by
  simp only [enSl, List.mem_cons, List.not_mem_nil, or_false] at hu
  rcases hu with rfl | rfl | rfl | rfl | rfl | rfl | rfl <;> rfl⟩
/-- Where a cache lies: itself, its slots, its map, its ring, its log, its disk. -/
structure CA where
  c : Nat
  sb : Nat
  wb : Nat
  rb : Nat
  g : Nat
  p : Nat
def CA.own (A : CA) (b : Nat) : Prop := b = A.c ∨ b = A.sb ∨ b = A.wb ∨ b = A.rb
/-- All that a cache may change. -/
def CA.all (A : CA) (F FD : Nat → Prop) (b : Nat) : Prop := A.own b ∨ F b ∨ FD b
def slotsC (L : List Slt) : Array Value := (L.flatMap enSl).toArray
def cacheC (A : CA) (P : PC) : Array Value := #[.pointer (some ⟨A.g, 0, none⟩), .slice (some ⟨A.sb, 0, none⟩) P.L.length P.L.length, .map (some A.wb), .pointer (some ⟨A.rb, 0, none⟩), .int .u64 (P.num : Nat)]
/-- The map says where each block is. -/
structure WhAt (w : World) (b : Nat) (P : PC) : Prop where
  ex : ∃ (L : Ents Blk) (clk : Nat), w.heap[b]? = some (.map (ents encB L) clk) ∧ WF L clk ∧ ∀ k, get k L = (P.find k).map fun (i : Nat) => .int .i64 (i : Nat)
/-- A cache. -/
structure CAt (w : World) (F FD : Nat → Prop) (A : CA) (l : Lg) (d : Dsk) (P : PC) : Prop where
  blk : w.heap[A.c]? = some (.cells (cacheC A P) 69 (0, 0))
  slots : w.heap[A.sb]? = some (.cells (slotsC P.L) 42 (0, 0))
  wh : WhAt w A.wb P
  ring : RgAt w A.rb P.R
  log : LAt w F A.g A.p l
  disk : DAt w FD A.p d
  ap : ∀ b, F b → ¬ FD b
  own : ∀ b, A.own b → ¬ F b ∧ ¬ FD b
  ne : A.c ≠ A.sb ∧ A.c ≠ A.wb ∧ A.c ≠ A.rb ∧ A.sb ≠ A.wb ∧ A.sb ≠ A.rb ∧ A.wb ≠ A.rb
  ok : P.Ok
  num : P.num ≤ 1099511627775
section
variable {w w' : World} {F FD : Nat → Prop} {A : CA} {l : Lg} {d : Dsk} {P : PC}
theorem WhAt.lt {b : Nat} (h : WhAt w b P) : b < w.heap.size := by
  obtain ⟨L, clk, h, -⟩ := h.ex
  exact lt_of_block h
theorem WhAt.kept {b : Nat} (h : WhAt w b P) (hb : w'.heap[b]? = w.heap[b]?) : WhAt w' b P := by
  obtain ⟨L, clk, h1, h2⟩ := h.ex
  exact ⟨L, clk, hb.trans h1, h2⟩
theorem CAt.lt (h : CAt w F FD A l d P) : ∀ b, A.all F FD b → b < w.heap.size := fun b hb => by
  rcases hb with (rfl | rfl | rfl | rfl) | hb | hb
  · exact lt_of_block h.blk
  · exact lt_of_block h.slots
  · exact h.wh.lt
  · exact lt_of_block h.ring.blk
  · exact h.log.lt b hb
  · exact h.disk.lt b hb
theorem CAt.below (h : CAt w F FD A l d P) (hb : Below w.heap.size w w') : CAt w' F FD A l d P :=
  ⟨(hb.block _ (lt_of_block h.blk)).trans h.blk, (hb.block _ (lt_of_block h.slots)).trans h.slots, h.wh.kept (hb.block _ h.wh.lt), h.ring.below hb, h.log.below hb, h.disk.below hb, h.ap, h.own, h.ne, h.ok, h.num⟩
theorem CAt.mod {S : Nat → Prop} (h : CAt w F FD A l d P) (hm : Mod S w w') (hS : ∀ b, A.all F FD b → ¬ S b) : CAt w' F FD A l d P :=
  ⟨hm.heap h.blk (hS _ (.inl (.inl rfl))), hm.heap h.slots (hS _ (.inl (.inr (.inl rfl)))), h.wh.kept (hm.block _ h.wh.lt (hS _ (.inl (.inr (.inr (.inl rfl)))))), h.ring.mod hm (hS _ (.inl (.inr (.inr (.inr rfl))))),
    h.log.mod hm (fun b hb => hS b (.inr (.inl hb))), h.disk.mod hm (fun b hb => hS b (.inr (.inr hb))), h.ap, h.own, h.ne, h.ok, h.num⟩
theorem CAt.c0 (h : CAt w F FD A l d P) : w.cell? ⟨A.c, 0, none⟩ = some (.pointer (some ⟨A.g, 0, none⟩)) := cell_of h.blk rfl
theorem CAt.c1 (h : CAt w F FD A l d P) : w.cell? ⟨A.c, 1, none⟩ = some (.slice (some ⟨A.sb, 0, none⟩) P.L.length P.L.length) := cell_of h.blk rfl
theorem CAt.c2 (h : CAt w F FD A l d P) : w.cell? ⟨A.c, 2, none⟩ = some (.map (some A.wb)) := cell_of h.blk rfl
theorem CAt.c3 (h : CAt w F FD A l d P) : w.cell? ⟨A.c, 3, none⟩ = some (.pointer (some ⟨A.rb, 0, none⟩)) := cell_of h.blk rfl
theorem CAt.c4 (h : CAt w F FD A l d P) : w.cell? ⟨A.c, 4, none⟩ = some (.int .u64 (P.num : Nat)) := cell_of h.blk rfl
theorem slots_get {L : List Slt} {i : Nat} {x : Slt} (h : L[i]? = some x) {j : Nat} (hj : j < 7) : (slotsC L)[i * 7 + j]? = (enSl x)[j]? := by
  unfold slotsC
  rw [List.getElem?_toArray, get_flatMap (en := enSl) (k := 7) (fun _ => rfl) _ _ _ _ h hj]
theorem slots_lies {b : Nat} {L : List Slt} (h : w.heap[b]? = some (.cells (slotsC L) 42 (0, 0))) {i : Nat} {x : Slt} (hx : L[i]? = some x) : Lies w b (i * 7) (slC x) := fun j hj => by
  have hj7 : j < 7 := hj
  refine cell_of h ?_
  rw [slots_get hx hj7]
  match j, hj7 with
  | 0, _ => rfl
  | 1, _ => rfl
  | 2, _ => rfl
  | 3, _ => rfl
  | 4, _ => rfl
  | 5, _ => rfl
  | 6, _ => rfl
theorem slots_size (L : List Slt) : (slotsC L).size = L.length * 7 := by simp [slotsC, len_flatMap (en := enSl) (k := 7) (fun _ => rfl)]
theorem slots_set {L : List Slt} {i : Nat} (hi : i < L.length) (x : Slt) : setMany (slotsC L) (i * 7) (slC x).toList = slotsC (L.set i x) := by
  apply Array.ext_getElem?
  intro j
  by_cases hj : j < (slotsC L).size
  · rw [setMany_get _ _ _ _ hj]
    have hz := slots_size L
    have hq : j / 7 < L.length := by omega
    have hlx : (slC x).toList.length = 7 := rfl
    by_cases h1 : i * 7 ≤ j ∧ j < i * 7 + (slC x).toList.length
    · rw [if_pos h1]
      rw [hlx] at h1
      obtain ⟨k, rfl⟩ : ∃ k, j = i * 7 + k := ⟨j - i * 7, by omega⟩
      rw [slots_get (L := L.set i x) (i := i) (x := x) (by rw [List.getElem?_set, if_pos rfl, if_pos hi]) (by omega), Nat.add_sub_cancel_left]
    · rw [if_neg h1]
      rw [hlx] at h1
      have hji : i ≠ j / 7 := by omega
      have e : j = (j / 7) * 7 + j % 7 := by omega
      rw [e, slots_get (L := L) (i := j / 7) (x := L[j / 7]) (List.getElem?_eq_getElem hq) (Nat.mod_lt _ (by decide)),
        slots_get (L := L.set i x) (i := j / 7) (x := L[j / 7]) (by rw [List.getElem?_set, if_neg hji]; exact List.getElem?_eq_getElem hq) (Nat.mod_lt _ (by decide))]
  · rw [Array.getElem?_eq_none (by rw [setMany_size]; omega), Array.getElem?_eq_none (by rw [slots_size, List.length_set, ← slots_size L]; omega)]
theorem pok_any (h : CAt w F FD A l d P) : Calls Tryz.prog 45 #[.pointer (some ⟨A.c, 0, none⟩)] w fun e w' => e = .returned (.bool true) ∧ w' = w := by
  have c := h.c0
  clear h
  go_enter Tryz.func45, Tryz.ntmps45
  go_wp2
  go_ret
  exact ⟨rfl, rfl⟩
theorem pnumber_any (h : CAt w F FD A l d P) : Calls Tryz.prog 35 #[.pointer (some ⟨A.c, 0, none⟩)] w fun e w' => e = .returned (.int .u64 (P.num : Nat)) ∧ w' = w := by
  have c := h.c4
  have hok := pok_any h
  clear h
  go_enter Tryz.func35, Tryz.ntmps35
  go_wp2_with (first
    | (go_at_call 45; refine hok.mono ?_; rintro e wt ⟨rfl, hw⟩; obtain rfl := hw.symm; clear hw)
    | fail)
  go_ret
  exact ⟨rfl, rfl⟩
end
end Go.Proofs.YtldimgchpgoggaaGreat
