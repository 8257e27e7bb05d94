/- The disk: a sector torn, in memory. -/
import Derived.Test.YtmakpbjknklpiaaGreatMgRpl22
import Derived.Test.YtmakpbjknklpiaaGreatMgRpl19
import Derived.Test.YtmakpbjknklpiaaGreatMgRpl10
/- Write, Sync, Checkpoint where no fuse burns. Plain. -/
namespace Go.Proofs.YtmakpbjknklpiaaGreat
open Go.RowKit Go.Tn Go.Tn.Bt Go.Tn.Lp Go.Tn.Dk
theorem write_full {l : Lg} {d : Dsk} {ps : List Pt} (he : l.err = 0) (ht : transB ps (l.homes d) = true) {pcs : List Pc} (hc : cutB l.epoch l.next (recB ps) = .ok pcs) (hf : l.free < pcs.length) : l.write d ps = (l, d, 8) := by
  unfold Lg.write
  rw [if_neg (by omega), if_neg (by rw [ht]; decide), hc]
  simp only
  rw [if_pos hf]
theorem write_arg {l : Lg} {d : Dsk} {ps : List Pt} (he : l.err = 0) (ht : transB ps (l.homes d) = false) : l.write d ps = (l, d, 2) := by
  unfold Lg.write
  rw [if_neg (by omega), if_pos ht]
theorem cut_ok {ps : List Pt} {homes ep ct : Nat} (ht : transB ps homes = true) (he : ep ≤ 16777215) (hc : ct + 1000 ≤ 1099511627775) : cutB ep ct (recB ps) = .ok (cutL ep ct (recB ps)) := by
  have hl := recB_le ht
  unfold cutB
  rw [if_neg (by unfold cutN; omega), if_neg (by omega)]
theorem recN {ps : List Pt} {homes : Nat} (ht : transB ps homes = true) : cutN (recB ps) = ((recB ps).length + 105) / 106 ∧ 1 ≤ ((recB ps).length + 105) / 106 ∧ (recB ps).length ≤ 4000 := by
  have h1 := (transB_iff ps homes).1 ht
  have h2 := recB_len fun p hp => (h1.2.2.1 p hp).2.2
  have h3 := recB_le ht
  unfold cutN
  omega
theorem mem_keys' {l : Lg} {d : Dsk} {k : Nat} (hk : k < l.homes d) : k ∈ l.keys d ↔ ∃ b, l.H k = some b := by
  unfold Lg.keys
  rw [List.mem_filter, List.mem_range]
  exact ⟨fun h => Option.isSome_iff_exists.1 h.2, fun h => ⟨hk, Option.isSome_iff_exists.2 h⟩⟩
/-! ### What is seen of homes -/
end Go.Proofs.YtmakpbjknklpiaaGreat

/- The power goes off: what a ring says then. Plain. -/
namespace Go.Tn.Dk
open Go.Tn Go.Tn.Lp
/-- How many bytes of a write last. -/
def keptN (n i : Nat) (keep : List Int) (torn : Int) : Nat := if i + 1 = n ∧ 0 < torn ∧ torn < 128 then torn.toNat else if i < keep.length ∧ keep.getD i 0 ≠ 0 then 128 else 0
def crashL (n : Nat) (keep : List Int) (torn : Int) : Nat → List (Nat × List Nat) → List (List Nat) → List (List Nat)
  | _, [], L => L
  | i, q :: Q, L => crashL n keep torn (i + 1) Q (L.set q.1 (tornB (keptN n i keep torn) q.2 (L.getD q.1 [])))
/-- The power goes off, and on. -/
def Dsk.crash (d : Dsk) (keep : List Int) (torn : Int) : Dsk := { d with L := crashL d.Q.length keep torn 0 d.Q d.L, Q := [], fused := false, off := false }
theorem crashL_len (n : Nat) (keep : List Int) (torn : Int) : ∀ (Q : List (Nat × List Nat)) (i : Nat) (L : List (List Nat)), (crashL n keep torn i Q L).length = L.length
  | [], _, _ => rfl
  | q :: Q, i, L => by
    simp only [crashL]
    rw [crashL_len n keep torn Q, List.length_set]
theorem set_getD {L : List (List Nat)} {a i : Nat} {b : List Nat} (h : a ≠ i) : (L.set a b).getD i [] = L.getD i [] := by
  rw [List.getD_eq_getElem?_getD, List.getElem?_set_ne h, ← List.getD_eq_getElem?_getD]
theorem crash_no (n : Nat) (keep : List Int) (torn : Int) : ∀ (Q : List (Nat × List Nat)) (i : Nat) (L : List (List Nat)) (s : Nat), (∀ q ∈ Q, q.1 ≠ s) → (crashL n keep torn i Q L).getD s [] = L.getD s []
  | [], _, _, _, _ => rfl
  | q :: Q, i, L, s, h => by
    simp only [crashL]
    rw [crash_no n keep torn Q _ _ s fun x hx => h x (List.mem_cons_of_mem _ hx), set_getD (h q List.mem_cons_self)]
theorem crash_one (n : Nat) (keep : List Int) (torn : Int) : ∀ (Q : List (Nat × List Nat)) (i : Nat) (L : List (List Nat)) (q : Nat × List Nat), q ∈ Q → (Q.map (·.1)).Nodup → q.1 < L.length → ∃ k, (crashL n keep torn i Q L).getD q.1 [] = tornB k q.2 (L.getD q.1 [])
  | x :: Q, i, L, q, hq, hnd, hl => by
    simp only [crashL]
    rw [List.map_cons, List.nodup_cons] at hnd
    rcases List.mem_cons.1 hq with rfl | hq
    · refine ⟨keptN n i keep torn, ?_⟩
      rw [crash_no n keep torn Q _ _ q.1 fun y hy e => hnd.1 (List.mem_map.2 ⟨y, hy, e⟩)]
      rw [List.getD_eq_getElem?_getD, List.getElem?_set_self hl]
      rfl
    · have hne : x.1 ≠ q.1 := fun e => hnd.1 (List.mem_map.2 ⟨q, hq, e.symm⟩)
      obtain ⟨k, hk⟩ := crash_one n keep torn Q (i + 1) (L.set x.1 (tornB (keptN n i keep torn) x.2 (L.getD x.1 []))) q hq hnd.2 (by rw [List.length_set]; exact hl)
      exact ⟨k, by rw [hk, set_getD hne]⟩
theorem crash_get (d : Dsk) (keep : List Int) (torn : Int) (i : Nat) : (d.crash keep torn).get i = (crashL d.Q.length keep torn 0 d.Q d.L).getD i [] := rfl
theorem crash_L (d : Dsk) (keep : List Int) (torn : Int) : (d.crash keep torn).L.length = d.L.length := crashL_len _ _ _ _ _ _
theorem crash_Q (d : Dsk) (keep : List Int) (torn : Int) : (d.crash keep torn).Q = [] := rfl
end Go.Tn.Dk
namespace Go.Proofs.YtmakpbjknklpiaaGreat
open Go.RowKit Go.Tn Go.Tn.Bt Go.Tn.Lp Go.Tn.Dk
theorem behind_append (l : Lg) (a b : List Rc) : Lg.behind (Lg.behind l a) b = Lg.behind l (a ++ b) := by
  unfold Lg.behind
  simp only
  rw [applyH_append, endCt_append]
theorem pcs_byte {homes E : Nat} : ∀ (rs : List Rc) (ct : Nat), Goods homes E ct rs → ∀ q ∈ allPcs ct rs, q.ok ∧ (∀ x ∈ q.da, x < 256) ∧ q.ep = E
  | [], _, _, q, h => by cases h
  | r :: rs, ct, ⟨h1, h2, h3⟩, q, h => by
    rcases List.mem_append.1 h with h | h
    · refine ⟨h2.ok q h, ?_, ?_⟩
      · exact cutL_lt (recB_lt _) _ _ q h
      · obtain ⟨i, _, rfl⟩ := mem_pcs h
        exact h1
    · exact pcs_byte rs _ h3 q h
/-- Which sectors what lasts has. -/
structure Keep (d : Dsk) (l : Lg) : Prop where
  sect : ∀ i, i < 2 + l.n → Sect l.epoch (d.get i)
  hdct : ∀ i, i < 2 → ∀ p, unsealB (d.get i) = some p → p.ep = l.epoch → p.ct ≤ l.gen
  ep : l.epoch < 65536
/-- What a disk says behind a crash: as some log would have left it. -/
structure Says (d : Dsk) (n gen tail F : Nat) (D : List Rc) : Prop where
  hd : HeadIs d gen tail F
  rise : Rise (d.L.length - 2 - n) tail F D
  slots : ∀ q ∈ allPcs tail D, d.get (2 + q.ct % n) = sealB q
  room : endCt tail D ≤ tail + n
  stop : ∀ E, stepB d (Lg.behind (log0 n E gen tail) D) (lastF F D) = none
theorem Base.says {d : Dsk} {l : Lg} {F : Nat} {D : List Rc} (h : Base d l F D) : Says d l.n l.gen l.tail F D :=
  ⟨h.hd, h.rise, h.slots, h.room, fun E => stepB_epoch (l := Lg.behind (log0 l.n l.epoch l.gen l.tail) D) (l' := Lg.behind (log0 l.n E l.gen l.tail) D) rfl rfl rfl (base_stop h (by have := endCt_le D l.tail; omega))⟩
/-- The same sectors of heads and ring: the same. -/
theorem Says.same {d d' : Dsk} {n gen tail F : Nat} {D : List Rc} (h : Says d n gen tail F D) (hn : 2 ≤ n) (hL : d'.L.length = d.L.length) (hs : ∀ i, i < 2 + n → d'.get i = d.get i) : Says d' n gen tail F D := by
  have hlt : ∀ c, 2 + c % n < 2 + n := fun c => by have := Nat.mod_lt c (show 0 < n by omega); omega
  refine ⟨h.hd.same fun i hi => hs i (by omega), by rw [hL]; exact h.rise, fun q hq => (hs _ (hlt _)).trans (h.slots q hq), h.room, fun E => ?_⟩
  refine stepB_same' (l := Lg.behind (log0 n E gen tail) D) hL (by have := endCt_le D tail; show tail ≤ endCt tail D; omega) (fun c _ _ => pieceB_same (hs _ (hlt c))) (h.stop E)
theorem ring_nodup {n t : Nat} : ∀ (ps : List Pc), (ps.map (·.ct)).Nodup → (∀ q ∈ ps, t ≤ q.ct ∧ q.ct < t + n) → ((ringQ n ps).map (·.1)).Nodup
  | [], _, _ => List.nodup_nil
  | p :: ps, hnd, h => by
    rw [List.map_cons, List.nodup_cons] at hnd
    have ih := ring_nodup ps hnd.2 fun q hq => h q (List.mem_cons_of_mem _ hq)
    show ((2 + p.ct % n) :: (ringQ n ps).map (fun x => x.1)).Nodup
    refine List.nodup_cons.2 ⟨fun hm => ?_, ih⟩
    obtain ⟨x, hx, he⟩ := List.mem_map.1 hm
    obtain ⟨q, hq, rfl⟩ := List.mem_map.1 hx
    have h1 := h p List.mem_cons_self
    have h2 := h q (List.mem_cons_of_mem _ hq)
    simp only at he
    have := mod_inj h1.1 h1.2 h2.1 h2.2 (show p.ct % n = q.ct % n by omega)
    exact hnd.1 (by rw [this]; exact List.mem_map.2 ⟨q, hq, rfl⟩)
theorem pcs_nodup : ∀ (rs : List Rc) (ct : Nat), ((allPcs ct rs).map (·.ct)).Nodup
  | [], _ => List.nodup_nil
  | r :: rs, ct => by
    show ((r.pcs ct ++ allPcs (ct + r.n) rs).map (·.ct)).Nodup
    rw [List.map_append]
    refine List.pairwise_append.2 ⟨?_, pcs_nodup rs _, fun a ha b hb e => ?_⟩
    · unfold Rc.pcs cutL
      rw [List.map_map]
      refine List.pairwise_map.2 ((List.nodup_range (n := cutN (recB r.ps))).imp fun h e => h ?_)
      simp only [Function.comp, pieceAt] at e
      omega
    · obtain ⟨p, hp, rfl⟩ := List.mem_map.1 ha
      obtain ⟨q, hq, rfl⟩ := List.mem_map.1 hb
      obtain ⟨i, hi, rfl⟩ := mem_pcs hp
      have := (allPcs_ct rs _ q hq).1
      simp only [pieceAt] at e
      omega
/-- Pieces of records wait: the first ones of the records are said. -/
theorem crash_ring {d : Dsk} {l : Lg} {F : Nat} {D P : List Rc} {m : Nat} {keep : List Int} {torn : Int} (hb : Base d.last l F D) (hk : Keep d.last l) (hfit : l.fit d) (hd : d.ok) (hg : Goods (l.homes d) l.epoch (endCt l.tail D) P) (hroom : endCt (endCt l.tail D) P ≤ l.tail + l.n)
    (hQ : d.Q = ringQ l.n ((allPcs (endCt l.tail D) P).take m)) :
    (∃ j, j ≤ P.length ∧ Says (d.crash keep torn) l.n l.gen l.tail F (D ++ P.take j)) ∧ (∀ i, i < 2 + l.n → SectA (l.epoch / 256 * 256 + 255) ((d.crash keep torn).get i)) ∧ ∀ k, (d.crash keep torn).get (2 + l.n + k) = d.last.get (2 + l.n + k) := by
  have hn2 := hfit.n2
  have hnd := hfit.nd
  have hL := crash_L d keep torn
  have hlt : ∀ c, 2 + c % l.n < 2 + l.n := fun c => by have := Nat.mod_lt c (show 0 < l.n by omega); omega
  have htc := endCt_le D l.tail
  have hmem : ∀ q ∈ (allPcs (endCt l.tail D) P).take m, q ∈ allPcs (endCt l.tail D) P := fun q hq => List.mem_of_mem_take hq
  have hct : ∀ q ∈ (allPcs (endCt l.tail D) P).take m, l.tail ≤ q.ct ∧ q.ct < l.tail + l.n := fun q hq => by
    have := allPcs_ct P _ q (hmem q hq)
    omega
  have hnodup : (d.Q.map (·.1)).Nodup := by
    rw [hQ]
    exact ring_nodup _ (by rw [List.map_take]; exact (pcs_nodup P _).sublist (List.take_sublist _ _)) hct
  -- a sector that nobody waits for
  have hno : ∀ i, (∀ q ∈ (allPcs (endCt l.tail D) P).take m, 2 + q.ct % l.n ≠ i) → (d.crash keep torn).get i = d.last.get i := fun i hi => by
    rw [crash_get, crash_no]
    · rfl
    · intro x hx
      rw [hQ] at hx
      obtain ⟨q, hq, rfl⟩ := List.mem_map.1 hx
      exact hi q hq
  have hone : ∀ q ∈ (allPcs (endCt l.tail D) P).take m, ∃ k, (d.crash keep torn).get (2 + q.ct % l.n) = tornB k (sealB q) (d.last.get (2 + q.ct % l.n)) := fun q hq => by
    have hx : (2 + q.ct % l.n, sealB q) ∈ d.Q := by rw [hQ]; exact List.mem_map.2 ⟨q, hq, rfl⟩
    obtain ⟨k, hk⟩ := crash_one d.Q.length keep torn d.Q 0 d.L _ hx hnodup (by have := hlt q.ct; simp only; omega)
    exact ⟨k, hk⟩
  have hpb := pcs_byte P _ hg
  refine ⟨?_, fun i hi => ?_, fun k => hno _ fun q hq => by have := hlt q.ct; omega⟩
  · have hM : ∀ c, endCt l.tail D ≤ c → c < l.tail + l.n → pieceB (d.crash keep torn) l.n c = pieceB d.last l.n c ∨ pieceB (d.crash keep torn) l.n c = none ∨ ∃ q ∈ allPcs (endCt l.tail D) P, q.ct = c ∧ pieceB (d.crash keep torn) l.n c = some q := by
      intro c h1 h2
      by_cases hc : ∃ q ∈ (allPcs (endCt l.tail D) P).take m, q.ct = c
      · obtain ⟨q, hq, rfl⟩ := hc
        obtain ⟨hqo, hqb, hqe⟩ := hpb q (hmem q hq)
        obtain ⟨k, hk'⟩ := hone q hq
        rcases torn_or (k := k) (hk.sect _ (hlt q.ct)) hk.ep hqo hqb hqe (fun p hp hpe hpc => by
          have : pieceB d.last l.n q.ct = some p := by
            unfold pieceB
            rw [hp]
            simp only
            rw [if_pos hpc]
          have := hb.old q.ct p h1 h2 this
          omega) with h | h | h
        · right; left
          unfold pieceB
          rw [hk', h]
        · left
          exact pieceB_same (hk'.trans h)
        · right; right
          exact ⟨q, hmem q hq, rfl, pieceB_seal hqo (hk'.trans h)⟩
      · left
        refine pieceB_same (hno _ fun q hq e => hc ⟨q, hq, ?_⟩)
        have h3 := hct q hq
        exact mod_inj (t := l.tail) h3.1 h3.2 (by omega) h2 (by omega)
    have hmx := mix_chain (d := d.last) (d' := d.crash keep torn) (E := l.epoch) hL P (Lg.behind (log0 l.n l.epoch l.gen l.tail) D) (lastF F D) (homes_le (d := d) hd) hg (by show l.tail ≤ endCt l.tail D; omega) hroom hb.fle hb.stop hb.old hM
    obtain ⟨j, hj, hch, hst⟩ := hmx
    refine ⟨j, hj, ?_⟩
    have hch2 := (chain_iff _ _ _ _ _ _).1 hch
    have hhom : (d.crash keep torn).L.length - 2 - l.n = l.homes d.last := by rw [hL]; rfl
    have hjle : endCt (endCt l.tail D) (P.take j) ≤ endCt (endCt l.tail D) P := by
      conv => rhs; rw [← List.take_append_drop j P]
      rw [endCt_append]
      have := endCt_le (P.drop j) (endCt (endCt l.tail D) (P.take j))
      omega
    refine ⟨hb.hd.same fun i hi => hno i fun q hq => by omega, ?_, fun q hq => ?_, ?_, fun E => ?_⟩
    · rw [hhom, rise_append]
      exact ⟨hb.rise, hch2.1⟩
    · rw [allPcs_append] at hq
      rcases List.mem_append.1 hq with hq | hq
      · have h4 := allPcs_ct D _ q hq
        rw [hno _ fun p hp e => ?_]
        · exact hb.slots q hq
        · have h5 := hct p hp
          have h6 := (allPcs_ct P _ p (hmem p hp)).1
          have := mod_inj (t := l.tail) h5.1 h5.2 h4.1 (by have := hb.room; omega) (show p.ct % l.n = q.ct % l.n by omega)
          omega
      · exact hch2.2 q hq
    · rw [endCt_append]
      omega
    · rw [lastF_append]
      rw [behind_append] at hst
      exact stepB_epoch (l := Lg.behind (log0 l.n l.epoch l.gen l.tail) (D ++ P.take j)) (l' := Lg.behind (log0 l.n E l.gen l.tail) (D ++ P.take j)) rfl rfl rfl hst
  · have hep := hk.ep
    by_cases hc : ∃ q ∈ (allPcs (endCt l.tail D) P).take m, 2 + q.ct % l.n = i
    · obtain ⟨q, hq, rfl⟩ := hc
      obtain ⟨k, hk'⟩ := hone q hq
      obtain ⟨hqo, hqb, hqe⟩ := hpb q (hmem q hq)
      rw [hk']
      exact torn_ends (hk.sect _ hi).a hep hqo hqb hqe
    · rw [hno i fun q hq e => hc ⟨q, hq, e⟩]
      exact (hk.sect i hi).a.mono (by omega)
end Go.Proofs.YtmakpbjknklpiaaGreat

/- A crash while homes, or a head, wait; opened behind a crash. Plain. -/
namespace Go.Proofs.YtmakpbjknklpiaaGreat
open Go.RowKit Go.Tn Go.Tn.Bt Go.Tn.Lp Go.Tn.Dk
/-- Homes wait: nothing of the ring is another one. -/
theorem crash_homes {d : Dsk} {l : Lg} {F : Nat} {D : List Rc} {keep : List Int} {torn : Int} (hb : Base d.last l F D) (hk : Keep d.last l) (hn2 : 2 ≤ l.n) (hQ : ∀ x ∈ d.Q, ∃ k b, x.1 = 2 + l.n + k ∧ l.H k = some b) :
    Says (d.crash keep torn) l.n l.gen l.tail F D ∧ (∀ i, i < 2 + l.n → SectA (l.epoch / 256 * 256 + 255) ((d.crash keep torn).get i)) ∧ ∀ k, l.H k = none → (d.crash keep torn).get (2 + l.n + k) = d.last.get (2 + l.n + k) := by
  have hno : ∀ i, (∀ x ∈ d.Q, x.1 ≠ i) → (d.crash keep torn).get i = d.last.get i := fun i hi => by
    rw [crash_get, crash_no _ _ _ _ _ _ _ hi]
    rfl
  have hlow : ∀ i, i < 2 + l.n → (d.crash keep torn).get i = d.last.get i := fun i hi => hno i fun x hx => by
    obtain ⟨k, b, h1, -⟩ := hQ x hx
    omega
  refine ⟨hb.says.same hn2 (crash_L d keep torn) hlow, fun i hi => ?_, fun k hkn => hno _ fun x hx => ?_⟩
  · rw [hlow i hi]
    exact (hk.sect i hi).a.mono (by omega)
  · obtain ⟨j, b, h1, h2⟩ := hQ x hx
    intro e
    have : j = k := by omega
    rw [this, hkn] at h2
    cases h2
theorem hdB_none {b : List Nat} {i : Nat} (h : unsealB b = none) : hdB b i = none := by
  unfold hdB
  rw [h]
theorem hdB_at {b : List Nat} {i : Nat} {h : Hd} (hh : hdB b i = some h) : h.gen % 2 = i := by
  unfold hdB at hh
  split at hh
  · rename_i p hp
    unfold headP at hh
    split at hh
    · rename_i hc
      cases hh
      exact hc.2.2.1
    · cases hh
  · cases hh
theorem newer_or {a b : Option Hd} {z : Hd} (h : newer a b = some z) : a = some z ∨ b = some z := by
  unfold newer at h
  cases b with
  | none => exact .inl h
  | some y =>
    cases a with
    | none => exact .inr h
    | some x =>
      simp only at h
      split at h
      · exact .inr h
      · exact .inl h
/-- A place of heads spoilt where the head does not lie. -/
theorem HeadIs.spoilt {d d' : Dsk} {gen tail F : Nat} (h : HeadIs d gen tail F) (h1 : unsealB (d'.get ((gen + 1) % 2)) = none) (h2 : ∀ i, i < 2 → i ≠ (gen + 1) % 2 → d'.get i = d.get i) : HeadIs d' gen tail F := by
  have hn := hdB_none (i := (gen + 1) % 2) h1
  rcases h with ⟨hh, hs⟩ | ⟨hh, hz⟩
  · have hnew : newer (hdB (d.get 0) 0) (hdB (d.get 1) 1) = some ⟨gen, tail, F⟩ := hh
    have hg2 : d'.get (gen % 2) = d.get (gen % 2) := h2 _ (Nat.mod_lt _ (by decide)) (by omega)
    refine .inl ⟨?_, by rw [hg2]; exact hs⟩
    show newer (hdB (d'.get 0) 0) (hdB (d'.get 1) 1) = some ⟨gen, tail, F⟩
    rcases newer_or hnew with h3 | h3
    · have e : gen % 2 = 0 := hdB_at h3
      rw [show (gen + 1) % 2 = 1 by omega] at hn h2
      rw [hn, h2 0 (by decide) (by decide), h3]
      rfl
    · have e : gen % 2 = 1 := hdB_at h3
      rw [show (gen + 1) % 2 = 0 by omega] at hn h2
      rw [hn, h2 1 (by decide) (by decide), h3]
      rfl
  · have hnew : newer (hdB (d.get 0) 0) (hdB (d.get 1) 1) = none := hh
    obtain ⟨n1, n2⟩ := newer_none hnew
    refine .inr ⟨?_, hz⟩
    show newer (hdB (d'.get 0) 0) (hdB (d'.get 1) 1) = none
    by_cases e : (gen + 1) % 2 = 0
    · rw [e] at hn h2
      rw [hn, h2 1 (by decide) (by decide), n2]
      rfl
    · have e : (gen + 1) % 2 = 1 := by omega
      rw [e] at hn h2
      rw [hn, h2 0 (by decide) (by decide), n1]
      rfl
/-- A head waits: the elder one, or the newer one, is there. -/
theorem crash_head {d : Dsk} {l : Lg} {F : Nat} {D : List Rc} {keep : List Int} {torn : Int} (hb : Base d.last l F D) (hk : Keep d.last l) (hfit : l.fit d) (hd : d.ok) (hnx : l.next = endCt l.tail D) (hsm : l.next < 1099511627776) (hg : l.gen + 1 ≤ 1099511627775)
    (hQ : d.Q = [((l.gen + 1) % 2, sealB (headPc l.epoch ⟨l.gen + 1, l.next, l.epoch⟩))]) :
    (Says (d.crash keep torn) l.n l.gen l.tail F D ∨ Says (d.crash keep torn) l.n (l.gen + 1) l.next l.epoch []) ∧ (∀ i, i < 2 + l.n → SectA (l.epoch / 256 * 256 + 255) ((d.crash keep torn).get i)) ∧ ∀ i, 2 ≤ i → (d.crash keep torn).get i = d.last.get i := by
  have hn2 := hfit.n2
  have hnd := hfit.nd
  have hlt := Nat.mod_lt (l.gen + 1) (show 0 < 2 by decide)
  have hno : ∀ i, i ≠ (l.gen + 1) % 2 → (d.crash keep torn).get i = d.last.get i := fun i hi => by
    rw [crash_get, crash_no _ _ _ _ _ _ _ fun x hx => ?_]
    · rfl
    · rw [hQ, List.mem_singleton] at hx
      rw [hx]
      exact fun e => hi e.symm
  have hokq : (headPc l.epoch ⟨l.gen + 1, l.next, l.epoch⟩).ok := headPc_ok hfit.epoch hg
  have hbq : ∀ x ∈ (headPc l.epoch ⟨l.gen + 1, l.next, l.epoch⟩).da, x < 256 := pack_lt _
  obtain ⟨k, hk'⟩ := crash_one d.Q.length keep torn d.Q 0 d.L ((l.gen + 1) % 2, sealB (headPc l.epoch ⟨l.gen + 1, l.next, l.epoch⟩)) (by rw [hQ]; exact List.mem_singleton.2 rfl) (by rw [hQ]; simp) (by simp only; omega)
  have hone : (d.crash keep torn).get ((l.gen + 1) % 2) = tornB k (sealB (headPc l.epoch ⟨l.gen + 1, l.next, l.epoch⟩)) (d.last.get ((l.gen + 1) % 2)) := hk'
  refine ⟨?_, fun i hi => ?_, fun i hi => hno i (by omega)⟩
  · rcases torn_or (k := k) (hk.sect ((l.gen + 1) % 2) (by omega)) hk.ep hokq hbq rfl (fun p hp hpe => by
      have := hk.hdct _ hlt p hp hpe
      have e : (headPc l.epoch ⟨l.gen + 1, l.next, l.epoch⟩).ct = l.gen + 1 := rfl
      rw [e]
      omega) with h | h | h
    · left
      have hs := hb.says
      refine ⟨hs.hd.spoilt (by rw [hone]; exact h) fun i _ hi => hno i hi, by rw [crash_L]; exact hs.rise, fun q hq => ?_, hs.room, fun E => ?_⟩
      · rw [hno (2 + q.ct % l.n) (by omega)]
        exact hs.slots q hq
      · refine stepB_same' (l := Lg.behind (log0 l.n E l.gen l.tail) D) (d := d.last) (crash_L d keep torn) (by have := endCt_le D l.tail; show l.tail ≤ endCt l.tail D; omega) (fun c _ _ => pieceB_same (hno (2 + c % l.n) (by omega))) (hs.stop E)
    · left
      refine hb.says.same hn2 (crash_L d keep torn) fun i _ => ?_
      by_cases hi : i = (l.gen + 1) % 2
      · rw [hi, hone, h]
      · exact hno i hi
    · right
      have := Base.freed (d := d.last) (d' := d.crash keep torn) hb (hfit.disk rfl) ⟨hd.lo, hd.hi, hd.sec, (fun q hq => by cases hq), Nat.zero_le _, hd.fuse⟩ hnx hsm hg (crash_L d keep torn) (by rw [hone, h]) (fun i _ hi => hno i hi) (fun _ => none) 0
      exact this.says
  · by_cases hi2 : i = (l.gen + 1) % 2
    · rw [hi2, hone]
      exact torn_ends (hk.sect ((l.gen + 1) % 2) (by omega)).a hk.ep hokq hbq rfl
    · rw [hno i hi2]
      exact (hk.sect i hi).a.mono (by omega)
theorem newest_sect {d : Dsk} {M : Nat} : ∀ k, (∀ i, i < k → SectA M (d.get i)) → newestB d k ≤ M
  | 0, _ => Nat.zero_le _
  | k + 1, h => by
    have ih := newest_sect k fun i hi => h i (by omega)
    have h1 := h k (by omega)
    have h2 : (endsB (d.get k)).1 ≤ M := h1.fe
    have h3 : (endsB (d.get k)).2 ≤ M := h1.be
    simp only [newestB]
    omega
/-- Opened behind a crash. -/
theorem Says.open_ {d : Dsk} {n gen tail F M : Nat} {D : List Rc} (h : Says d n gen tail F D) (hd : d.ok) (hQ : d.Q = []) (hn2 : 2 ≤ n) (hnd : n + 3 ≤ d.L.length) (hg : gen ≤ 1099511627775) (hF : F ≤ 16777215) (hs : ∀ i, i < 2 + n → SectA M (d.get i)) (hM : M < 65535) :
    ∃ l2, openB d n = some l2 ∧ l2.n = n ∧ l2.H = applyH (fun _ => none) D ∧ l2.next = endCt tail D ∧ l2.tail = tail ∧ l2.gen = gen ∧ l2.epoch ≤ M + 1 ∧ l2.err = 0 ∧ newestB d (2 + n) < 16777215 ∧ Rg d l2 F D [] ∧ Keep d.last l2 := by
  have hnew := newest_sect (2 + n) hs
  have ho := open_base hd hn2 hnd h.hd h.rise h.slots h.room (h.stop 0) (by omega)
  have hlt : ∀ c, 2 + c % n < 2 + n := fun c => by have := Nat.mod_lt c (show 0 < n by omega); omega
  refine ⟨_, ho, rfl, rfl, rfl, rfl, rfl, by show newestB d (2 + n) + 1 ≤ M + 1; omega, rfl, by omega, ?_, ?_⟩
  · have hslots : ∀ q ∈ allPcs tail D, q.ep ≤ newestB d (2 + n) := fun q hq => newest_seal (hlt q.ct) (rise_ok D _ _ h.rise q hq) (h.slots q hq)
    refine ⟨open_fit hd hn2 hnd ho, hd, ?_, hQ, trivial, by rw [List.append_nil]; rfl, by rw [List.append_nil]; rfl⟩
    rw [last_of_none hQ]
    refine ⟨h.hd, h.rise, h.slots, h.room, ?_, .inr (h.stop _), fun c q h1 h2 hq => ?_⟩
    · show lastF F D ≤ newestB d (2 + n) + 1
      by_cases hD : D = []
      · subst hD
        show F ≤ _
        rcases h.hd with ⟨_, hi2⟩ | ⟨_, _, _, rfl⟩
        · have h3 : F ≤ newestB d (2 + n) := newest_seal (k := 2 + n) (by have := Nat.mod_lt gen (show 0 < 2 by decide); omega) (headPc_ok hF hg) hi2
          omega
        · omega
      · obtain ⟨q, hq, he⟩ := lastF_mem D tail F hD
        have := hslots q hq
        omega
    · show q.ep < newestB d (2 + n) + 1
      have hq : pieceB d n c = some q := hq
      obtain ⟨hg2, rfl⟩ := pieceB_get hq
      have hqok : q.ok := (pieceB_ok (n := n) hd (by omega) (by omega) hq).1
      have := newest_seal (hlt q.ct) hqok hg2
      omega
  · rw [last_of_none hQ]
    refine ⟨fun i hi => ?_, fun i hi p hp hpe => ?_, by show newestB d (2 + n) + 1 < 65536; omega⟩
    · have h1 := newest_ge d (2 + n) i hi
      have h2 := hs i hi
      exact (SectA.mk h2.len h2.byt h1.1 h1.2 h2.hi : SectA (newestB d (2 + n)) (d.get i)).next (Nat.lt_succ_self _)
    · exfalso
      have hpe : p.ep = newestB d (2 + n) + 1 := hpe
      have hs2 := seal_unseal hp
      have hok := (unsealB_ok (hs i (by omega)).byt hp).1
      have := newest_seal (k := 2 + n) (i := i) (by omega) hok hs2.symm
      omega
end Go.Proofs.YtmakpbjknklpiaaGreat

/- The disk: Fuse, Live, kept, walked. -/
namespace Go.Tn.Dk
/-- The fuse is set. -/
def Dsk.arm (d : Dsk) (n : Int) : Dsk := if n < 0 ∨ d.off = true then d else { d with fuse := n.toNat, fused := true }
def Dsk.armE (d : Dsk) (n : Int) : Nat := if n < 0 then 2 else if d.off = true then 7 else 0
theorem Dsk.ok.arm {d : Dsk} (h : d.ok) {n : Int} (hn : n < 9223372036854775808) : (d.arm n).ok := by
  unfold Dsk.arm
  split
  · exact h
  · exact ⟨h.lo, h.hi, h.sec, h.que, h.small, by simp only; omega⟩
end Go.Tn.Dk
namespace Go.Proofs.YtmakpbjknklpiaaGreat
open Go.RowKit Go.Tn Go.Tn.Bt Go.Tn.Lp Go.Tn.Dk
theorem fuse_any {w : World} {F : Nat → Prop} {p : Nat} {d : Dsk} (h : DAt w F p d) (n : Int) (hn : n < 9223372036854775808) :
    Calls Tryz.prog 17 #[.pointer (some ⟨p, 0, none⟩), .int .i64 n] w fun e w' => e = .returned (.int .i64 (d.armE n : Nat)) ∧ DAt w' F p (d.arm n) ∧ Mod F w w' := by
  have hsz := size_any h
  have hlo := h.ok.lo
  have hne : ((d.L.length : Int) == 0) = false := beq_eq_false_iff_ne.2 (by omega)
  have HD := Lib.hid h
  obtain ⟨r, qv, h1, -, -, -, -, h6, -⟩ := h.ex
  have c2 := cell_of (o := 2) h1 rfl
  have c3 := cell_of (o := 3) h1 rfl
  have c4 := cell_of (o := 4) h1 rfl
  have f2 := free_of (o := 2) h1
  have f3 := free_of (o := 3) h1
  have HFP := Lib.hid h6
  have H1 := Lib.hid h1
  clear h1 h
  by_cases h0 : n < 0
  · have e1 : d.armE n = 2 := by unfold Dsk.armE; rw [if_pos h0]
    have e2 : d.arm n = d := by unfold Dsk.arm; rw [if_pos (.inl h0)]
    rw [e1, e2]
    go_enter Tryz.func17, Tryz.ntmps17
    go_wp2_with (first
      | (go_at_call 34; refine hsz.mono ?_; rintro e w2 ⟨rfl, hw2⟩; obtain rfl := hw2.symm; clear hw2)
      | fail)
    go_ret
    exact ⟨rfl, HD.out, Mod.refl _ _⟩
  · by_cases hoff : d.off = true
    · have e1 : d.armE n = 7 := by unfold Dsk.armE; rw [if_neg h0, if_pos hoff]
      have e2 : d.arm n = d := by unfold Dsk.arm; rw [if_pos (.inr hoff)]
      rw [e1, e2]
      rw [hoff] at c4
      clear e1 e2
      have h0' : decide (n < 0) = false := by simp; omega
      go_enter Tryz.func17, Tryz.ntmps17
      go_wp2_with (first
        | (go_at_call 34; refine hsz.mono ?_; rintro e w2 ⟨rfl, hw2⟩; obtain rfl := hw2.symm; clear hw2)
        | fail)
      go_ret
      exact ⟨rfl, HD.out, Mod.refl _ _⟩
    · have hoff : d.off = false := by simpa using hoff
      have e1 : d.armE n = 0 := by unfold Dsk.armE; rw [if_neg h0, if_neg (by rw [hoff]; decide)]
      have e2 : d.arm n = { d with fuse := n.toNat, fused := true } := by unfold Dsk.arm; rw [if_neg (by rw [hoff]; simpa using h0)]
      rw [e1]
      rw [hoff] at c4
      have E2 := Lib.hid e2
      clear e1 e2
      have h0' : decide (n < 0) = false := by simp; omega
      have hfin : DAt ((w.setCell ⟨p, 2, none⟩ (.int .i64 n)).setCell ⟨p, 3, none⟩ (.bool true)) F p (d.arm n) ∧ Mod F w ((w.setCell ⟨p, 2, none⟩ (.int .i64 n)).setCell ⟨p, 3, none⟩ (.bool true)) := by
        obtain ⟨r', qv', g1, g2, g3, g4, g5, g6, g7⟩ := HD.out.ex
        have hm : Mod (fun b => b = p) w ((w.setCell ⟨p, 2, none⟩ (.int .i64 n)).setCell ⟨p, 3, none⟩ (.bool true)) := Mod.setCell (S := fun b => b = p) (Mod.setCell (S := fun b => b = p) (Mod.refl _ _) _ _ fun _ => rfl) _ _ fun _ => rfl
        have hh1 := heap_setCell_at (o := 2) (v := .int .i64 n) g1
        have hh2 := heap_setCell_at (o := 3) (v := .bool true) hh1
        have hok := HD.out.ok.arm hn
        refine ⟨⟨hok, ⟨r', qv', ?_, ?_, ?_, g4, g5, g6, g7⟩, fun b hb => Nat.lt_of_lt_of_le (HD.out.lt b hb) hm.size⟩, hm.mono fun x _ hx => by rw [hx]; exact g6⟩
        · rw [E2.out]
          simp only
          rw [hh2]
          rw [show ((n.toNat : Nat) : Int) = n by omega, hoff]
          rfl
        · rw [E2.out]
          exact g2.kept hm.size fun k hk => by cases hk; exact hm.block _ (g2.lt rfl) g4
        · rw [E2.out]
          exact g3.kept hm.size fun k hk => hm.block _ (g3.lt hk) (g5 k hk).1
      have HFIN := Lib.hid hfin
      clear hfin
      go_enter Tryz.func17, Tryz.ntmps17
      go_wp2_with (first
        | (go_at_call 34; refine hsz.mono ?_; rintro e w2 ⟨rfl, hw2⟩; obtain rfl := hw2.symm; clear hw2)
        | fail)
      go_ret
      exact ⟨rfl, HFIN.out.1, HFIN.out.2⟩
end Go.Proofs.YtmakpbjknklpiaaGreat

/- The disk: kept, walked. -/
namespace Go.Proofs.YtmakpbjknklpiaaGreat
open Go.RowKit Go.Tn Go.Tn.Bt Go.Tn.Lp Go.Tn.Dk
set_option maxRecDepth 20000 in
set_option maxHeartbeats 4000000 in
theorem kept_any {w : World} {p : Nat} {qa : Option Addr} {L0 f0 fd0 o0 : Value} {N qc : Nat} (hp : w.heap[p]? = some (.cells #[L0, .slice qa N qc, f0, fd0, o0] 67 (0, 0))) (hN : N ≤ 1000000000) (i : Nat) (hi : i < N) (v : Value) (ks : List Int) (hv : LSl enI 1 w v ks) (torn : Int) :
    Calls Tryz.prog 66 #[.pointer (some ⟨p, 0, none⟩), .int .i64 i, v, .int .i64 torn] w fun e w' => e = .returned (.int .i64 (keptN N i ks torn : Nat)) ∧ w' = w := by
  have c1 := cell_of (o := 1) hp rfl
  obtain ⟨ao, cap, rfl, hv1, hv2, hv3⟩ := hv
  unfold maxLen at hv2
  have hN1 : (1 : Int) ≤ (N : Int) := by omega
  have hN2 : (N : Int) ≤ 1000000000 := by omega
  have hK2 : (ks.length : Int) ≤ 9223372036854775807 := by omega
  clear hp
  unfold keptN
  by_cases hA : i + 1 = N ∧ 0 < torn ∧ torn < 128
  · rw [if_pos hA]
    obtain ⟨h1, h2, h3⟩ := hA
    have e1 : ((i : Int) == (N : Int) - 1) = true := by rw [beq_iff_eq]; omega
    have e2 : decide (0 < torn) = true := by simp [h2]
    have e3 : decide (torn < 128) = true := by simp [h3]
    have e4 : ((torn.toNat : Nat) : Int) = torn := by omega
    rw [e4]
    clear hv3
    go_enter Tryz.func66, Tryz.ntmps66
    go_wp2
    go_ret
    exact ⟨rfl, rfl⟩
  · rw [if_neg hA]
    by_cases hB : i < ks.length
    · obtain ⟨z, hz⟩ : ∃ z, ks[i]? = some z := ⟨_, List.getElem?_eq_getElem hB⟩
      obtain ⟨b, o, rfl, hlt, hc⟩ := hv3 (by omega)
      have hc0 : w.cell? ⟨b, o + i, none⟩ = some (.int .i64 z) := by simpa using hc i z hz 0 (by simp [enI])
      have hgd : ks.getD i 0 = z := by rw [List.getD_eq_getElem?_getD, hz]; rfl
      rw [hgd]
      have e5 : decide ((i : Int) < (ks.length : Int)) = true := by simp; omega
      have e6 : (i : Int) < (ks.length : Int) := by omega
      by_cases hz0 : z = 0
      · subst hz0
        rw [if_neg (by simp)]
        clear hc
        by_cases h1 : i + 1 = N
        · have e1 : ((i : Int) == (N : Int) - 1) = true := by rw [beq_iff_eq]; clear hA; omega
          by_cases h2 : 0 < torn
          · have e2 : decide (0 < torn) = true := by simp [h2]
            have e3 : decide (torn < 128) = false := decide_eq_false fun h => hA ⟨h1, h2, h⟩
            go_enter Tryz.func66, Tryz.ntmps66
            go_wp2
            go_ret
            exact ⟨rfl, rfl⟩
          · have e2 : decide (0 < torn) = false := decide_eq_false h2
            go_enter Tryz.func66, Tryz.ntmps66
            go_wp2
            go_ret
            exact ⟨rfl, rfl⟩
        · have e1 : ((i : Int) == (N : Int) - 1) = false := beq_eq_false_iff_ne.2 (by clear hA; omega)
          go_enter Tryz.func66, Tryz.ntmps66
          go_wp2
          go_ret
          exact ⟨rfl, rfl⟩
      · rw [if_pos ⟨hB, hz0⟩]
        have e7 : (z != 0) = true := by rw [bne_iff_ne]; exact hz0
        clear hc
        by_cases h1 : i + 1 = N
        · have e1 : ((i : Int) == (N : Int) - 1) = true := by rw [beq_iff_eq]; clear hA; omega
          by_cases h2 : 0 < torn
          · have e2 : decide (0 < torn) = true := by simp [h2]
            have e3 : decide (torn < 128) = false := decide_eq_false fun h => hA ⟨h1, h2, h⟩
            go_enter Tryz.func66, Tryz.ntmps66
            go_wp2
            go_ret
            exact ⟨rfl, rfl⟩
          · have e2 : decide (0 < torn) = false := decide_eq_false h2
            go_enter Tryz.func66, Tryz.ntmps66
            go_wp2
            go_ret
            exact ⟨rfl, rfl⟩
        · have e1 : ((i : Int) == (N : Int) - 1) = false := beq_eq_false_iff_ne.2 (by clear hA; omega)
          go_enter Tryz.func66, Tryz.ntmps66
          go_wp2
          go_ret
          exact ⟨rfl, rfl⟩
    · rw [if_neg (by simp [hB])]
      have e5 : decide ((i : Int) < (ks.length : Int)) = false := by simp; omega
      clear hv3
      by_cases h1 : i + 1 = N
      · have e1 : ((i : Int) == (N : Int) - 1) = true := by rw [beq_iff_eq]; clear hA; omega
        by_cases h2 : 0 < torn
        · have e2 : decide (0 < torn) = true := by simp [h2]
          have e3 : decide (torn < 128) = false := decide_eq_false fun h => hA ⟨h1, h2, h⟩
          go_enter Tryz.func66, Tryz.ntmps66
          go_wp2
          go_ret
          exact ⟨rfl, rfl⟩
        · have e2 : decide (0 < torn) = false := decide_eq_false h2
          go_enter Tryz.func66, Tryz.ntmps66
          go_wp2
          go_ret
          exact ⟨rfl, rfl⟩
      · have e1 : ((i : Int) == (N : Int) - 1) = false := beq_eq_false_iff_ne.2 (by clear hA; omega)
        go_enter Tryz.func66, Tryz.ntmps66
        go_wp2
        go_ret
        exact ⟨rfl, rfl⟩
end Go.Proofs.YtmakpbjknklpiaaGreat

/- The disk: a sector torn, in memory. -/
namespace Go.Tn.Dk
open Go.RowKit Go.Tn Go.Tn.Lp
theorem enS_at (s : List Nat) {j : Nat} (hj : j < 128) : (enS s)[j]? = some (.int .u8 ((s.getD j 0 : Nat) : Int)) := by
  simp [enS, hj]
theorem tornB_len {m : Nat} {q s : List Nat} (hm : m ≤ 128) (hq : q.length = 128) (hs : s.length = 128) : (tornB m q s).length = 128 := by
  unfold tornB
  rw [List.length_append, List.length_take, List.length_drop]
  omega
theorem tornB_getD {m : Nat} {q s : List Nat} (hm : m ≤ 128) (hq : q.length = 128) (hs : s.length = 128) {j : Nat} (hj : j < 128) : (tornB m q s).getD j 0 = if j < m then q.getD j 0 else s.getD j 0 := by
  unfold tornB
  rw [List.getD_eq_getElem?_getD, List.getD_eq_getElem?_getD, List.getD_eq_getElem?_getD]
  by_cases h : j < m
  · rw [if_pos h, List.getElem?_append_left (by rw [List.length_take]; omega), List.getElem?_take_of_lt h]
  · rw [if_neg h, List.getElem?_append_right (by rw [List.length_take]; omega), List.length_take, Nat.min_eq_left (by omega), List.getElem?_drop, show m + (j - m) = j by omega]
theorem secB.torn {m : Nat} {q s : List Nat} (hm : m ≤ 128) (hq : secB q) (hs : secB s) : secB (tornB m q s) := by
  refine ⟨tornB_len hm hq.1 hs.1, fun x hx => ?_⟩
  rcases List.mem_append.1 hx with hx | hx
  · exact hq.2 x (List.mem_of_mem_take hx)
  · exact hs.2 x (List.mem_of_mem_drop hx)
theorem keptN_le (n i : Nat) (keep : List Int) (torn : Int) : keptN n i keep torn ≤ 128 := by
  unfold keptN
  split
  · omega
  · split <;> omega
theorem crashL_append (n : Nat) (keep : List Int) (torn : Int) (q : Nat × List Nat) : ∀ (Q : List (Nat × List Nat)) (i : Nat) (L : List (List Nat)),
    crashL n keep torn i (Q ++ [q]) L = (crashL n keep torn i Q L).set q.1 (tornB (keptN n (i + Q.length) keep torn) q.2 ((crashL n keep torn i Q L).getD q.1 []))
  | [], i, L => rfl
  | x :: Q, i, L => by
    rw [List.cons_append, crashL, crashL_append n keep torn q Q, crashL, List.length_cons, show i + 1 + Q.length = i + (Q.length + 1) by omega]
theorem crashL_take (n : Nat) (keep : List Int) (torn : Int) (Q : List (Nat × List Nat)) (L : List (List Nat)) (k : Nat) (q : Nat × List Nat) (h : Q[k]? = some q) :
    crashL n keep torn 0 (Q.take (k + 1)) L = (crashL n keep torn 0 (Q.take k) L).set q.1 (tornB (keptN n k keep torn) q.2 ((crashL n keep torn 0 (Q.take k) L).getD q.1 [])) := by
  have hk := (List.getElem?_eq_some_iff.1 h).1
  rw [List.take_add_one, h]
  show crashL n keep torn 0 (Q.take k ++ [q]) L = _
  rw [crashL_append, List.length_take, Nat.min_eq_left (by omega), Nat.zero_add]
theorem crashL_sec {n : Nat} {keep : List Int} {torn : Int} {N : Nat} : ∀ (Q : List (Nat × List Nat)) (i : Nat) (L : List (List Nat)), (∀ q ∈ Q, q.1 < N ∧ secB q.2) → L.length = N → (∀ s ∈ L, secB s) → ∀ s ∈ crashL n keep torn i Q L, secB s
  | [], _, _, _, _, hL => hL
  | q :: Q, i, L, h, hN, hL => by
    have hq := h q List.mem_cons_self
    refine crashL_sec Q _ _ (fun r hr => h r (List.mem_cons_of_mem _ hr)) (by rw [List.length_set]; exact hN) fun s hs => ?_
    rcases List.mem_or_eq_of_mem_set hs with hs | rfl
    · exact hL s hs
    · refine secB.torn (keptN_le _ _ _ _) hq.2 ?_
      rw [List.getD_eq_getElem?_getD, List.getElem?_eq_getElem (by omega)]
      exact hL _ (List.getElem_mem (by omega))
theorem Dsk.ok.crash {d : Dsk} (h : d.ok) (keep : List Int) (torn : Int) : (d.crash keep torn).ok :=
  ⟨by rw [crash_L]; exact h.lo, by rw [crash_L]; exact h.hi, crashL_sec d.Q 0 d.L h.que rfl h.sec, fun q hq => (by cases hq), Nat.zero_le _, h.fuse⟩
end Go.Tn.Dk
namespace Go.Proofs.YtmakpbjknklpiaaGreat
open Go.RowKit Go.Tn Go.Tn.Bt Go.Tn.Lp Go.Tn.Dk
/-- A part of a sector copied into one that lasts. -/
theorem copy_torn {B : Nat} {w : World} {r n cap : Nat} {xs : List (List Nat)} (h : LOut enS 128 115 B w (.slice (some ⟨r, 0, none⟩) n cap) xs) {i : Nat} (hi : i < xs.length) (hsec : ∀ s ∈ xs, secB s)
    {b m c : Nat} (hm : m ≤ 128) {q : List Nat} (hq : secB q) (hl : Lies w b 1 (enS q).toArray) (hbr : b ≠ r) :
    ∃ w', (∀ (ρ : Operand → Value) (dst : Option Tmp) (ty : TypeId) (pos : String) (after : Array Edge) (g : Option (Nat × Bool)) (x y : Operand), ρ x = .slice (some ⟨r, i * 128, none⟩) m c → ρ y = .slice (some ⟨b, 1, none⟩) 128 128 →
      (execOp ρ ⟨dst, .call { callee := .builtin .copy, args := #[x, y], argTypes := #[53, 53] }, ty, pos, after, g⟩).run Tryz.prog w = .ok (.value (.int .i64 m)) w') ∧
      LOut enS 128 115 B w' (.slice (some ⟨r, 0, none⟩) n cap) (xs.set i (tornB m q (xs.getD i []))) ∧ Mod (fun x => x = r) w w' := by
  obtain ⟨-, hn, h1, h2, cur, hb, h3, h4, hln⟩ := h.whole
  have hsi : xs.getD i [] = xs[i] := by rw [List.getD_eq_getElem?_getD, List.getElem?_eq_getElem hi]; rfl
  have hs := hsec _ (List.getElem_mem hi)
  rw [hsi]
  have hfit : i * 128 + 128 ≤ cur.size := by
    have : (i + 1) * 128 ≤ cap * 128 := Nat.mul_le_mul_right 128 (by omega)
    omega
  have hcl : ((enS q).take m).length = m := by rw [List.length_take, enS_len]; omega
  have hold : ∀ j, j < 128 → cur[i * 128 + j]? = some (.int .u8 ((xs[i].getD j 0 : Nat) : Int)) := fun j hj => by
    have hl := h.lies elS.len (List.getElem?_eq_getElem hi)
    have := hl j (by simp [enS_len]; exact hj)
    have hj' : i * 128 + j < cur.size := by omega
    have hc := cell_of (o := i * 128 + j) hb (Array.getElem?_eq_getElem hj')
    rw [this] at hc
    rw [Array.getElem?_eq_getElem hj']
    rw [← hc]
    have h5 := enS_at xs[i] hj
    rw [List.getElem?_eq_getElem (by rw [enS_len]; exact hj)] at h5
    simpa using h5
  have hr := fun ty => run_copy_row (P := Tryz.prog) w 53 53 ty 5 r (i * 128) m c ⟨b, 1, none⟩ 128 128 cur 115 ((enS q).take m) Tryz.underlying53 size8 hb (by rw [hcl]; exact (Nat.min_eq_right hm).symm) (fun j v hv => by
    have hj := (List.getElem?_eq_some_iff.1 hv).1
    rw [hcl] at hj
    rw [List.getElem?_take_of_lt hj] at hv
    have := hl j (by simp [enS_len]; omega)
    rw [addr_add]
    rw [List.getElem?_eq_getElem (by rw [enS_len]; omega)] at hv
    rw [this]
    simpa using hv) (by rw [hcl]; omega) (fun u hu => enS_one q u (List.mem_of_mem_take hu))
  rw [hcl] at hr
  refine ⟨w.setRow r (cur.toList.take (i * 128) ++ (enS q).take m ++ cur.toList.drop (i * 128 + m)).toArray, fun ρ dst ty pos after g x y hx hy => ?_, ?_, setRow_mod r _ w⟩
  · simp only [execOp, resolve, invoke, builtin, Sem.run_bind, Sem.run_pure, Result.andThen_ok, List.map_toArray, List.map_cons, List.map_nil, hx, hy, hr, goInt]
  · have hset := LOut.setA elS.len h (i := i) hi (tornB m q xs[i])
    have e : (cur.toList.take (i * 128) ++ (enS q).take m ++ cur.toList.drop (i * 128 + m)).toArray = setMany cur (i * 128) (enS (tornB m q xs[i])) := by
      apply Array.ext_getElem?
      intro j
      by_cases hj : j < cur.size
      · rw [setMany_get _ _ _ _ hj, enS_len]
        simp only [List.getElem?_toArray]
        by_cases c1 : j < i * 128
        · rw [if_neg (by omega), List.append_assoc, List.getElem?_append_left (by simp; omega), List.getElem?_take_of_lt c1]
          simp
        · by_cases c2 : j < i * 128 + m
          · rw [if_pos (by omega), List.getElem?_append_left (by simp [enS_len]; omega), List.getElem?_append_right (by simp; omega), List.length_take, Array.length_toList, Nat.min_eq_left (by omega), List.getElem?_take_of_lt (by omega)]
            rw [enS_at _ (by omega), enS_at _ (by omega), tornB_getD hm hq.1 hs.1 (by omega), if_pos (by omega)]
          · rw [List.getElem?_append_right (by simp [enS_len]; omega)]
            rw [List.getElem?_drop]
            have e : i * 128 + m + (j - (List.take (i * 128) cur.toList ++ List.take m (enS q)).length) = j := by
              simp [enS_len]; omega
            rw [e]
            by_cases c3 : j < i * 128 + 128
            · rw [if_pos (by omega), enS_at _ (by omega), tornB_getD hm hq.1 hs.1 (by omega), if_neg (by omega)]
              have := hold (j - i * 128) (by omega)
              rw [show i * 128 + (j - i * 128) = j by omega] at this
              simpa using this
            · rw [if_neg (by omega)]
              simp
      · rw [Array.getElem?_eq_none (xs := setMany _ _ _) (by rw [setMany_size]; omega), Array.getElem?_eq_none (by simp [enS_len]; omega)]
    refine hset.kept (by rw [size_setCells]; simp [World.setRow]) fun k hk => ?_
    cases hk
    have h8 := heap_setCells_at (enS (tornB m q xs[i])) (i * 128) w cur hb
    have h9 := setRow_heap w r _ (cur.toList.take (i * 128) ++ (enS q).take m ++ cur.toList.drop (i * 128 + m)).toArray _ _ hb
    rw [e] at h9 ⊢
    exact h9.trans h8.symm
end Go.Proofs.YtmakpbjknklpiaaGreat
