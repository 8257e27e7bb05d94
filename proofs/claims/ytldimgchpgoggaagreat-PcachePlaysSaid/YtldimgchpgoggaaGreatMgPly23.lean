import Derived.Test.YtldimgchpgoggaaGreatMgPly19
import Derived.Test.YtldimgchpgoggaaGreatMgPly22
import Derived.Test.YtldimgchpgoggaaGreatMgPly11
import Derived.Test.YtldimgchpgoggaaGreatMgPly21
import Derived.Test.YtldimgchpgoggaaGreatMgPly6
namespace Go.Tn.Dk
open Go.Tn Go.Tn.Lp
def keptN (n i : Nat) (keep : List Int) (torn : Int) : Nat := if i + 1 = n ∧ 0 < torn ∧ torn < 128 then torn.toNat else if i < keep.length ∧ keep.getD i 0 ≠ 0 then 128 else 0
def crashL (n : Nat) (keep : List Int) (torn : Int) : Nat → List (Nat × List Nat) → List (List Nat) → List (List Nat)
 | _, [], L => L
 | i, q :: Q, L => crashL n keep torn (i + 1) Q (L.set q.1 (tornB (keptN n i keep torn) q.2 (L.getD q.1 [])))
def Dsk.crash (d : Dsk) (keep : List Int) (torn : Int) : Dsk := { d with L := crashL d.Q.length keep torn 0 d.Q d.L, Q := [], fused := false, off := false }
theorem crashL_len (n : Nat) (keep : List Int) (torn : Int) : ∀ (Q : List (Nat × List Nat)) (i : Nat) (L : List (List Nat)), (crashL n keep torn i Q L).length = L.length
 | [], _, _ => rfl
 | q :: Q, i, L => by
   simp only [crashL]
   rw [crashL_len n keep torn Q, List.length_set]
theorem set_getD {L : List (List Nat)} {a i : Nat} {b : List Nat} (h : a ≠ i) : (L.set a b).getD i [] = L.getD i [] := by
 rw [List.getD_eq_getElem?_getD, List.getElem?_set_ne h, ← List.getD_eq_getElem?_getD]
theorem crash_no (n : Nat) (keep : List Int) (torn : Int) : ∀ (Q : List (Nat × List Nat)) (i : Nat) (L : List (List Nat)) (s : Nat), (∀ q ∈ Q, q.1 ≠ s) → (crashL n keep torn i Q L).getD s [] = L.getD s []
 | [], _, _, _, _ => rfl
 | q :: Q, i, L, s, h => by
   simp only [crashL]
   rw [crash_no n keep torn Q _ _ s fun x hx => h x (List.mem_cons_of_mem _ hx), set_getD (h q List.mem_cons_self)]
theorem crash_one (n : Nat) (keep : List Int) (torn : Int) : ∀ (Q : List (Nat × List Nat)) (i : Nat) (L : List (List Nat)) (q : Nat × List Nat), q ∈ Q → (Q.map (·.1)).Nodup → q.1 < L.length → ∃ k, (crashL n keep torn i Q L).getD q.1 [] = tornB k q.2 (L.getD q.1 [])
 | x :: Q, i, L, q, hq, hnd, hl => by
   simp only [crashL]
   rw [List.map_cons, List.nodup_cons] at hnd
   rcases List.mem_cons.1 hq with rfl | hq
   · refine ⟨keptN n i keep torn, ?_⟩
     rw [crash_no n keep torn Q _ _ q.1 fun y hy e => hnd.1 (List.mem_map.2 ⟨y, hy, e⟩)]
     rw [List.getD_eq_getElem?_getD, List.getElem?_set_self hl]
     rfl
   · have hne : x.1 ≠ q.1 := fun e => hnd.1 (List.mem_map.2 ⟨q, hq, e.symm⟩)
     obtain ⟨k, hk⟩ := crash_one n keep torn Q (i + 1) (L.set x.1 (tornB (keptN n i keep torn) x.2 (L.getD x.1 []))) q hq hnd.2 (by rw [List.length_set]; exact hl)
     exact ⟨k, by rw [hk, set_getD hne]⟩
theorem crash_get (d : Dsk) (keep : List Int) (torn : Int) (i : Nat) : (d.crash keep torn).get i = (crashL d.Q.length keep torn 0 d.Q d.L).getD i [] := rfl
theorem crash_L (d : Dsk) (keep : List Int) (torn : Int) : (d.crash keep torn).L.length = d.L.length := crashL_len _ _ _ _ _ _
end Go.Tn.Dk
namespace Go.Proofs.YtldimgchpgoggaaGreat
open Go.RowKit Go.Tn Go.Tn.Bt Go.Tn.Lp Go.Tn.Dk
theorem behind_append (l : Lg) (a b : List Rc) : Lg.behind (Lg.behind l a) b = Lg.behind l (a ++ b) := by
 unfold Lg.behind
 simp only
 rw [applyH_append, endCt_append]
theorem pcs_byte {homes E : Nat} : ∀ (rs : List Rc) (ct : Nat), Goods homes E ct rs → ∀ q ∈ allPcs ct rs, q.ok ∧ (∀ x ∈ q.da, x < 256) ∧ q.ep = E
 | [], _, _, q, h => by cases h
 | r :: rs, ct, ⟨h1, h2, h3⟩, q, h => by
   rcases List.mem_append.1 h with h | h
   · refine ⟨h2.ok q h, ?_, ?_⟩
     · exact cutL_lt (recB_lt _) _ _ q h
     · obtain ⟨i, _, rfl⟩ := mem_pcs h
       exact h1
   · exact pcs_byte rs _ h3 q h
structure Keep (d : Dsk) (l : Lg) : Prop where
 sect : ∀ i, i < 2 + l.n → Sect l.epoch (d.get i)
 hdct : ∀ i, i < 2 → ∀ p, unsealB (d.get i) = some p → p.ep = l.epoch → p.ct ≤ l.gen
 ep : l.epoch < 65536
structure Says (d : Dsk) (n gen tail F : Nat) (D : List Rc) : Prop where
 hd : HeadIs d gen tail F
 rise : Rise (d.L.length - 2 - n) tail F D
 slots : ∀ q ∈ allPcs tail D, d.get (2 + q.ct % n) = sealB q
 room : endCt tail D ≤ tail + n
 stop : ∀ E, stepB d (Lg.behind (log0 n E gen tail) D) (lastF F D) = none
theorem Says.same {d d' : Dsk} {n gen tail F : Nat} {D : List Rc} (h : Says d n gen tail F D) (hn : 2 ≤ n) (hL : d'.L.length = d.L.length) (hs : ∀ i, i < 2 + n → d'.get i = d.get i) : Says d' n gen tail F D := by
 have hlt : ∀ c, 2 + c % n < 2 + n := fun c => by have := Nat.mod_lt c (show 0 < n by omega); omega
 refine ⟨h.hd.same fun i hi => hs i (by omega), by rw [hL]; exact h.rise, fun q hq => (hs _ (hlt _)).trans (h.slots q hq), h.room, fun E => ?_⟩
 refine stepB_same' (l := Lg.behind (log0 n E gen tail) D) hL (by have := endCt_le D tail; show tail ≤ endCt tail D; omega) (fun c _ _ => pieceB_same (hs _ (hlt c))) (h.stop E)
theorem ring_nodup {n t : Nat} : ∀ (ps : List Pc), (ps.map (·.ct)).Nodup → (∀ q ∈ ps, t ≤ q.ct ∧ q.ct < t + n) → ((ringQ n ps).map (·.1)).Nodup
 | [], _, _ => List.nodup_nil
 | p :: ps, hnd, h => by
   rw [List.map_cons, List.nodup_cons] at hnd
   have ih := ring_nodup ps hnd.2 fun q hq => h q (List.mem_cons_of_mem _ hq)
   show ((2 + p.ct % n) :: (ringQ n ps).map (fun x => x.1)).Nodup
   refine List.nodup_cons.2 ⟨fun hm => ?_, ih⟩
   obtain ⟨x, hx, he⟩ := List.mem_map.1 hm
   obtain ⟨q, hq, rfl⟩ := List.mem_map.1 hx
   have h1 := h p List.mem_cons_self
   have h2 := h q (List.mem_cons_of_mem _ hq)
   simp only at he
   have := mod_inj h1.1 h1.2 h2.1 h2.2 (show p.ct % n = q.ct % n by omega)
   exact hnd.1 (by rw [this]; exact List.mem_map.2 ⟨q, hq, rfl⟩)
theorem pcs_nodup : ∀ (rs : List Rc) (ct : Nat), ((allPcs ct rs).map (·.ct)).Nodup
 | [], _ => List.nodup_nil
 | r :: rs, ct => by
   show ((r.pcs ct ++ allPcs (ct + r.n) rs).map (·.ct)).Nodup
   rw [List.map_append]
   refine List.pairwise_append.2 ⟨?_, pcs_nodup rs _, fun a ha b hb e => ?_⟩
   · unfold Rc.pcs cutL
     rw [List.map_map]
     refine List.pairwise_map.2 ((List.nodup_range (n := cutN (recB r.ps))).imp fun h e => h ?_)
     simp only [Function.comp, pieceAt] at e
     omega
   · obtain ⟨p, hp, rfl⟩ := List.mem_map.1 ha
     obtain ⟨q, hq, rfl⟩ := List.mem_map.1 hb
     obtain ⟨i, hi, rfl⟩ := mem_pcs hp
     have := (allPcs_ct rs _ q hq).1
     simp only [pieceAt] at e
     omega
theorem crash_ring {d : Dsk} {l : Lg} {F : Nat} {D P : List Rc} {m : Nat} {keep : List Int} {torn : Int} (hb : Base d.last l F D) (hk : Keep d.last l) (hfit : l.fit d) (hd : d.ok) (hg : Goods (l.homes d) l.epoch (endCt l.tail D) P) (hroom : endCt (endCt l.tail D) P ≤ l.tail + l.n)
   (hQ : d.Q = ringQ l.n ((allPcs (endCt l.tail D) P).take m)) :
   (∃ j, j ≤ P.length ∧ Says (d.crash keep torn) l.n l.gen l.tail F (D ++ P.take j)) ∧ (∀ i, i < 2 + l.n → SectA (l.epoch / 256 * 256 + 255) ((d.crash keep torn).get i)) ∧ ∀ k, (d.crash keep torn).get (2 + l.n + k) = d.last.get (2 + l.n + k) := by
 have hn2 := hfit.n2
 have hnd := hfit.nd
 have hL := crash_L d keep torn
 have hlt : ∀ c, 2 + c % l.n < 2 + l.n := fun c => by have := Nat.mod_lt c (show 0 < l.n by omega); omega
 have htc := endCt_le D l.tail
 have hmem : ∀ q ∈ (allPcs (endCt l.tail D) P).take m, q ∈ allPcs (endCt l.tail D) P := fun q hq => List.mem_of_mem_take hq
 have hct : ∀ q ∈ (allPcs (endCt l.tail D) P).take m, l.tail ≤ q.ct ∧ q.ct < l.tail + l.n := fun q hq => by
   have := allPcs_ct P _ q (hmem q hq)
   omega
 have hnodup : (d.Q.map (·.1)).Nodup := by
   rw [hQ]
   exact ring_nodup _ (by rw [List.map_take]; exact (pcs_nodup P _).sublist (List.take_sublist _ _)) hct
 -- a sector that nobody waits for
 have hno : ∀ i, (∀ q ∈ (allPcs (endCt l.tail D) P).take m, 2 + q.ct % l.n ≠ i) → (d.crash keep torn).get i = d.last.get i := fun i hi => by
   rw [crash_get, crash_no]
   · rfl
   · intro x hx
     rw [hQ] at hx
     obtain ⟨q, hq, rfl⟩ := List.mem_map.1 hx
     exact hi q hq
 have hone : ∀ q ∈ (allPcs (endCt l.tail D) P).take m, ∃ k, (d.crash keep torn).get (2 + q.ct % l.n) = tornB k (sealB q) (d.last.get (2 + q.ct % l.n)) := fun q hq => by
   have hx : (2 + q.ct % l.n, sealB q) ∈ d.Q := by rw [hQ]; exact List.mem_map.2 ⟨q, hq, rfl⟩
   obtain ⟨k, hk⟩ := crash_one d.Q.length keep torn d.Q 0 d.L _ hx hnodup (by have := hlt q.ct; simp only; omega)
   exact ⟨k, hk⟩
 have hpb := pcs_byte P _ hg
 refine ⟨?_, fun i hi => ?_, fun k => hno _ fun q hq => by have := hlt q.ct; omega⟩
 · have hM : ∀ c, endCt l.tail D ≤ c → c < l.tail + l.n → pieceB (d.crash keep torn) l.n c = pieceB d.last l.n c ∨ pieceB (d.crash keep torn) l.n c = none ∨ ∃ q ∈ allPcs (endCt l.tail D) P, q.ct = c ∧ pieceB (d.crash keep torn) l.n c = some q := by
     intro c h1 h2
     by_cases hc : ∃ q ∈ (allPcs (endCt l.tail D) P).take m, q.ct = c
     · obtain ⟨q, hq, rfl⟩ := hc
       obtain ⟨hqo, hqb, hqe⟩ := hpb q (hmem q hq)
       obtain ⟨k, hk'⟩ := hone q hq
       rcases torn_or (k := k) (hk.sect _ (hlt q.ct)) hk.ep hqo hqb hqe (fun p hp hpe hpc => by
         have : pieceB d.last l.n q.ct = some p := by
           unfold pieceB
           rw [hp]
           simp only
           rw [if_pos hpc]
         have := hb.old q.ct p h1 h2 this
         omega) with h | h | h
       · right; left
         unfold pieceB
         rw [hk', h]
       · left
         exact pieceB_same (hk'.trans h)
       · right; right
         exact ⟨q, hmem q hq, rfl, pieceB_seal hqo (hk'.trans h)⟩
     · left
       refine pieceB_same (hno _ fun q hq e => hc ⟨q, hq, ?_⟩)
       have h3 := hct q hq
       exact mod_inj (t := l.tail) h3.1 h3.2 (by omega) h2 (by omega)
   have hmx := mix_chain (d := d.last) (d' := d.crash keep torn) (E := l.epoch) hL P (Lg.behind (log0 l.n l.epoch l.gen l.tail) D) (lastF F D) (homes_le (d := d) hd) hg (by show l.tail ≤ endCt l.tail D; omega) hroom hb.fle hb.stop hb.old hM
   obtain ⟨j, hj, hch, hst⟩ := hmx
   refine ⟨j, hj, ?_⟩
   have hch2 := (chain_iff _ _ _ _ _ _).1 hch
   have hhom : (d.crash keep torn).L.length - 2 - l.n = l.homes d.last := by rw [hL]; rfl
   have hjle : endCt (endCt l.tail D) (P.take j) ≤ endCt (endCt l.tail D) P := by
     conv => rhs; rw [← List.take_append_drop j P]
     rw [endCt_append]
     have := endCt_le (P.drop j) (endCt (endCt l.tail D) (P.take j))
     omega
   refine ⟨hb.hd.same fun i hi => hno i fun q hq => by omega, ?_, fun q hq => ?_, ?_, fun E => ?_⟩
   · rw [hhom, rise_append]
     exact ⟨hb.rise, hch2.1⟩
   · rw [allPcs_append] at hq
     rcases List.mem_append.1 hq with hq | hq
     · have h4 := allPcs_ct D _ q hq
       rw [hno _ fun p hp e => ?_]
       · exact hb.slots q hq
       · have h5 := hct p hp
         have h6 := (allPcs_ct P _ p (hmem p hp)).1
         have := mod_inj (t := l.tail) h5.1 h5.2 h4.1 (by have := hb.room; omega) (show p.ct % l.n = q.ct % l.n by omega)
         omega
     · exact hch2.2 q hq
   · rw [endCt_append]
     omega
   · rw [lastF_append]
     rw [behind_append] at hst
     exact stepB_epoch (l := Lg.behind (log0 l.n l.epoch l.gen l.tail) (D ++ P.take j)) (l' := Lg.behind (log0 l.n E l.gen l.tail) (D ++ P.take j)) rfl rfl rfl hst
 · have hep := hk.ep
   by_cases hc : ∃ q ∈ (allPcs (endCt l.tail D) P).take m, 2 + q.ct % l.n = i
   · obtain ⟨q, hq, rfl⟩ := hc
     obtain ⟨k, hk'⟩ := hone q hq
     obtain ⟨hqo, hqb, hqe⟩ := hpb q (hmem q hq)
     rw [hk']
     exact torn_ends (hk.sect _ hi).a hep hqo hqb hqe
   · rw [hno i fun q hq e => hc ⟨q, hq, e⟩]
     exact (hk.sect i hi).a.mono (by omega)
end Go.Proofs.YtldimgchpgoggaaGreat
namespace Go.Proofs.YtldimgchpgoggaaGreat
open Go.RowKit Go.Tn Go.Tn.Bt Go.Tn.Lp Go.Tn.Dk
theorem newest_sect {d : Dsk} {M : Nat} : ∀ k, (∀ i, i < k → SectA M (d.get i)) → newestB d k ≤ M
 | 0, _ => Nat.zero_le _
 | k + 1, h => by
   have ih := newest_sect k fun i hi => h i (by omega)
   have h1 := h k (by omega)
   have h2 : (endsB (d.get k)).1 ≤ M := h1.fe
   have h3 : (endsB (d.get k)).2 ≤ M := h1.be
   simp only [newestB]
   omega
theorem Says.open_ {d : Dsk} {n gen tail F M : Nat} {D : List Rc} (h : Says d n gen tail F D) (hd : d.ok) (hQ : d.Q = []) (hn2 : 2 ≤ n) (hnd : n + 3 ≤ d.L.length) (hg : gen ≤ 1099511627775) (hF : F ≤ 16777215) (hs : ∀ i, i < 2 + n → SectA M (d.get i)) (hM : M < 65535) :
   ∃ l2, openB d n = some l2 ∧ l2.n = n ∧ l2.H = applyH (fun _ => none) D ∧ l2.next = endCt tail D ∧ l2.tail = tail ∧ l2.gen = gen ∧ l2.epoch ≤ M + 1 ∧ l2.err = 0 ∧ newestB d (2 + n) < 16777215 ∧ Rg d l2 F D [] ∧ Keep d.last l2 := by
 have hnew := newest_sect (2 + n) hs
 have ho := open_base hd hn2 hnd h.hd h.rise h.slots h.room (h.stop 0) (by omega)
 have hlt : ∀ c, 2 + c % n < 2 + n := fun c => by have := Nat.mod_lt c (show 0 < n by omega); omega
 refine ⟨_, ho, rfl, rfl, rfl, rfl, rfl, by show newestB d (2 + n) + 1 ≤ M + 1; omega, rfl, by omega, ?_, ?_⟩
 · have hslots : ∀ q ∈ allPcs tail D, q.ep ≤ newestB d (2 + n) := fun q hq => newest_seal (hlt q.ct) (rise_ok D _ _ h.rise q hq) (h.slots q hq)
   refine ⟨open_fit hd hn2 hnd ho, hd, ?_, hQ, trivial, by rw [List.append_nil]; rfl, by rw [List.append_nil]; rfl⟩
   rw [last_of_none hQ]
   refine ⟨h.hd, h.rise, h.slots, h.room, ?_, .inr (h.stop _), fun c q h1 h2 hq => ?_⟩
   · show lastF F D ≤ newestB d (2 + n) + 1
     by_cases hD : D = []
     · subst hD
       show F ≤ _
       rcases h.hd with ⟨_, hi2⟩ | ⟨_, _, _, rfl⟩
       · have h3 : F ≤ newestB d (2 + n) := newest_seal (k := 2 + n) (by have := Nat.mod_lt gen (show 0 < 2 by decide); omega) (headPc_ok hF hg) hi2
         omega
       · omega
     · obtain ⟨q, hq, he⟩ := lastF_mem D tail F hD
       have := hslots q hq
       omega
   · show q.ep < newestB d (2 + n) + 1
     have hq : pieceB d n c = some q := hq
     obtain ⟨hg2, rfl⟩ := pieceB_get hq
     have hqok : q.ok := (pieceB_ok (n := n) hd (by omega) (by omega) hq).1
     have := newest_seal (hlt q.ct) hqok hg2
     omega
 · rw [last_of_none hQ]
   refine ⟨fun i hi => ?_, fun i hi p hp hpe => ?_, by show newestB d (2 + n) + 1 < 65536; omega⟩
   · have h1 := newest_ge d (2 + n) i hi
     have h2 := hs i hi
     exact (SectA.mk h2.len h2.byt h1.1 h1.2 h2.hi : SectA (newestB d (2 + n)) (d.get i)).next (Nat.lt_succ_self _)
   · exfalso
     have hpe : p.ep = newestB d (2 + n) + 1 := hpe
     have hs2 := seal_unseal hp
     have hok := (unsealB_ok (hs i (by omega)).byt hp).1
     have := newest_seal (k := 2 + n) (i := i) (by omega) hok hs2.symm
     omega
end Go.Proofs.YtldimgchpgoggaaGreat
namespace Go.Tn.Dk
end Go.Tn.Dk
namespace Go.Proofs.YtldimgchpgoggaaGreat
open Go.RowKit Go.Tn Go.Tn.Bt Go.Tn.Lp Go.Tn.Dk
end Go.Proofs.YtldimgchpgoggaaGreat
namespace Go.Proofs.YtldimgchpgoggaaGreat
open Go.RowKit Go.Tn Go.Tn.Bt Go.Tn.Lp Go.Tn.Dk
end Go.Proofs.YtldimgchpgoggaaGreat
namespace Go.Tn.Dk
open Go.RowKit Go.Tn Go.Tn.Lp
theorem tornB_len {m : Nat} {q s : List Nat} (hm : m ≤ 128) (hq : q.length = 128) (hs : s.length = 128) : (tornB m q s).length = 128 := by
 unfold tornB
 rw [List.length_append, List.length_take, List.length_drop]
 omega
theorem secB.torn {m : Nat} {q s : List Nat} (hm : m ≤ 128) (hq : secB q) (hs : secB s) : secB (tornB m q s) := by
 refine ⟨tornB_len hm hq.1 hs.1, fun x hx => ?_⟩
 rcases List.mem_append.1 hx with hx | hx
 · exact hq.2 x (List.mem_of_mem_take hx)
 · exact hs.2 x (List.mem_of_mem_drop hx)
theorem keptN_le (n i : Nat) (keep : List Int) (torn : Int) : keptN n i keep torn ≤ 128 := by
 unfold keptN
 split
 · omega
 · split <;> omega
theorem crashL_sec {n : Nat} {keep : List Int} {torn : Int} {N : Nat} : ∀ (Q : List (Nat × List Nat)) (i : Nat) (L : List (List Nat)), (∀ q ∈ Q, q.1 < N ∧ secB q.2) → L.length = N → (∀ s ∈ L, secB s) → ∀ s ∈ crashL n keep torn i Q L, secB s
 | [], _, _, _, _, hL => hL
 | q :: Q, i, L, h, hN, hL => by
   have hq := h q List.mem_cons_self
   refine crashL_sec Q _ _ (fun r hr => h r (List.mem_cons_of_mem _ hr)) (by rw [List.length_set]; exact hN) fun s hs => ?_
   rcases List.mem_or_eq_of_mem_set hs with hs | rfl
   · exact hL s hs
   · refine secB.torn (keptN_le _ _ _ _) hq.2 ?_
     rw [List.getD_eq_getElem?_getD, List.getElem?_eq_getElem (by omega)]
     exact hL _ (List.getElem_mem (by omega))
theorem Dsk.ok.crash {d : Dsk} (h : d.ok) (keep : List Int) (torn : Int) : (d.crash keep torn).ok :=
 ⟨by rw [crash_L]; exact h.lo, by rw [crash_L]; exact h.hi, crashL_sec d.Q 0 d.L h.que rfl h.sec, fun q hq => (by cases hq), Nat.zero_le _, h.fuse⟩
end Go.Tn.Dk
namespace Go.Proofs.YtldimgchpgoggaaGreat
open Go.RowKit Go.Tn Go.Tn.Bt Go.Tn.Lp Go.Tn.Dk
end Go.Proofs.YtldimgchpgoggaaGreat
namespace Go.Proofs.YtldimgchpgoggaaGreat
open Go.RowKit Go.Tn Go.Tn.Bt Go.Tn.Lp Go.Tn.Dk
def homesB (l : Lg) (d : Dsk) : List (List Nat) := (List.range (l.homes d)).map (l.home d)
theorem homesB_len (l : Lg) (d : Dsk) : (homesB l d).length = l.homes d := by unfold homesB; rw [List.length_map, List.length_range]
def overB (hs : List (List Nat)) (ps : List Pt) : List (List Nat) := ps.foldl (fun hs p => if 0 ≤ p.1 ∧ p.1 < (hs.length : Int) then hs.set p.1.toNat p.2 else hs) hs
theorem home_getD (l : Lg) (d : Dsk) (k : Nat) : l.home d k = (l.H k).getD (d.get (2 + l.n + k)) := by
 unfold Lg.home
 cases l.H k <;> rfl
theorem set_range (N : Nat) (f : Nat → List Nat) (i : Nat) (b : List Nat) : ((List.range N).map f).set i b = (List.range N).map fun k => if k = i then b else f k := by
 apply List.ext_getElem?
 intro j
 rw [List.getElem?_set, List.length_map, List.length_range, List.getElem?_map, List.getElem?_map]
 by_cases hj : j < N
 · rw [List.getElem?_range hj]
   by_cases h : i = j
   · subst h
     simp [hj]
   · rw [if_neg h]
     simp [show ¬ j = i from fun e => h e.symm]
 · rw [List.getElem?_eq_none (l := List.range N) (by rw [List.length_range]; omega)]
   by_cases h : i = j
   · subst h
     simp [hj]
   · rw [if_neg h]
     rfl
theorem over_take (N : Nat) (g : Nat → List Nat) : ∀ (ps : List Pt) (H : Nat → Option (List Nat)), (∀ p ∈ ps, 0 ≤ p.1 ∧ p.1 < N) → overB ((List.range N).map fun k => (H k).getD (g k)) ps = (List.range N).map fun k => (takeH H ps k).getD (g k)
 | [], H, _ => rfl
 | p :: ps, H, h => by
   have hp := h p List.mem_cons_self
   have ih := over_take N g ps (fun k => if (k : Int) = p.1 then some p.2 else H k) fun q hq => h q (List.mem_cons_of_mem _ hq)
   show overB (if 0 ≤ p.1 ∧ p.1 < ((((List.range N).map fun k => (H k).getD (g k)).length : Nat) : Int) then ((List.range N).map fun k => (H k).getD (g k)).set p.1.toNat p.2 else (List.range N).map fun k => (H k).getD (g k)) ps = (List.range N).map fun k => (takeH (fun k : Nat => if (k : Int) = p.1 then some p.2 else H k) ps k).getD (g k)
   rw [if_pos (by simp; omega), set_range, ← ih]
   congr 1
   refine List.map_congr_left fun k _ => ?_
   by_cases hk : (k : Int) = p.1
   · rw [if_pos (by omega), if_pos hk]
     rfl
   · rw [if_neg (by omega), if_neg hk]
theorem homesB_write {l l' : Lg} {d d' : Dsk} {ps : List Pt} {pcs : List Pc} (hn2 : 2 ≤ l.n) (hn : l'.n = l.n) (hH : l'.H = takeH l.H ps) (hL : d'.L = d.L) (hQ : d'.Q = d.Q ++ ringQ l.n pcs) (ht : transB ps (l.homes d) = true) : homesB l' d' = overB (homesB l d) ps := by
 have hh : l'.homes d' = l.homes d := by unfold Lg.homes; rw [hn, hL]
 unfold homesB
 rw [hh]
 have e1 : l.home d = fun k => (l.H k).getD (d.get (2 + l.n + k)) := funext (home_getD l d)
 have e2 : l'.home d' = fun k => (takeH l.H ps k).getD (d.get (2 + l.n + k)) := funext fun k => homes_write hn2 hn hH hL hQ k
 rw [e1, e2, over_take]
 intro p hp
 have := ((transB_iff ps _).1 ht).2.2.1 p hp
 exact ⟨this.1, this.2.1⟩
def Ends (d : Dsk) (k E : Nat) : Prop := ∀ i, i < k → (endsB (d.get i)).1 ≤ E ∧ (endsB (d.get i)).2 ≤ E
theorem Ends.newest {d : Dsk} {E : Nat} : ∀ k, Ends d k E → newestB d k ≤ E
 | 0, _ => Nat.zero_le _
 | k + 1, h => by
   have ih := Ends.newest k fun i hi => h i (by omega)
   have h1 := h k (by omega)
   simp only [newestB]
   omega
end Go.Proofs.YtldimgchpgoggaaGreat
namespace Go.Proofs.YtldimgchpgoggaaGreat
open Go.RowKit Go.Tn Go.Tn.Bt Go.Tn.Lp Go.Tn.Dk
def PtB (w : World) (S : Nat → Prop) (v : Value) (ps : List Pt) : Prop := ∃ xs : List (Pt × Sv), xs.map (·.1) = ps ∧ LSl enPt 2 w v xs ∧ (∀ r, v.ownBlock = some r → ¬ S r ∧ r < w.heap.size) ∧ ∀ x ∈ xs, LSl en8 1 w (sv x.2) x.1.2 ∧ ∀ r, (sv x.2).ownBlock = some r → ¬ S r ∧ r < w.heap.size
theorem PtsO.b {B : Nat} {w : World} {S : Nat → Prop} {v : Value} {ps : List Pt} (h : PtsO B w v ps) (hS : ∀ b, S b → b < B ∨ w.heap.size ≤ b) : PtB w S v ps := by
 obtain ⟨xs, h1, h2, h3⟩ := h
 refine ⟨xs, h1, h2.sl elPt.len, fun r hr => ⟨fun e => ?_, h2.lt hr⟩, fun x hx => ⟨(h3 x hx).1, fun r hr => ⟨fun e => ?_, ((h3 x hx).2 r hr).2.1⟩⟩⟩
 · have := h2.lt hr
   have := h2.lo r hr
   rcases hS r e with h | h <;> omega
 · have := ((h3 x hx).2 r hr)
   rcases hS r e with h | h <;> omega
theorem PtB.a {w : World} {S : Nat → Prop} {v : Value} {ps : List Pt} (h : PtB w S v ps) : PtsA w S v ps := by
 obtain ⟨xs, h1, h2, h3, h4⟩ := h
 exact ⟨xs, h1, h2, fun r hr => (h3 r hr).1, fun x hx => ⟨(h4 x hx).1, fun r hr => ((h4 x hx).2 r hr).1⟩⟩
theorem PtB.mod {w w' : World} {S S' : Nat → Prop} {v : Value} {ps : List Pt} (h : PtB w S v ps) (hm : Mod S w w') (hS : ∀ b, S' b → S b ∨ w.heap.size ≤ b) : PtB w' S' v ps := by
 obtain ⟨xs, h1, h2, h3, h4⟩ := h
 have key : ∀ r, ¬ S r ∧ r < w.heap.size → ¬ S' r ∧ r < w'.heap.size := fun r hr => ⟨fun e => by
   rcases hS r e with h | h
   · exact hr.1 h
   · omega, Nat.lt_of_lt_of_le hr.2 hm.size⟩
 exact ⟨xs, h1, h2.mod hm fun r hr => (h3 r hr).1, fun r hr => key r (h3 r hr), fun x hx => ⟨(h4 x hx).1.mod hm fun r hr => ((h4 x hx).2 r hr).1, fun r hr => key r ((h4 x hx).2 r hr)⟩⟩
theorem PtB.below {w w' : World} {S : Nat → Prop} {v : Value} {ps : List Pt} (h : PtB w S v ps) (hb : Below w.heap.size w w') : PtB w' S v ps := by
 obtain ⟨xs, h1, h2, h3, h4⟩ := h
 exact ⟨xs, h1, h2.below hb, fun r hr => ⟨(h3 r hr).1, Nat.lt_of_lt_of_le (h3 r hr).2 hb.size⟩, fun x hx => ⟨(h4 x hx).1.below hb, fun r hr => ⟨((h4 x hx).2 r hr).1, Nat.lt_of_lt_of_le ((h4 x hx).2 r hr).2 hb.size⟩⟩⟩
end Go.Proofs.YtldimgchpgoggaaGreat
namespace Go.Tn.Slo
open Go.RowKit Go.Tn.Bt Go.Tn.Ino
abbrev Blk := Int × Int × Int
structure Slt where
 used : Bool
 blk : Blk
 ver : Nat
 dirty : Bool
 data : ByteArray
 deriving DecidableEq
def Slt.no : Slt := ⟨false, (0, 0, 0), 0, false, ByteArray.empty⟩
structure Slt.fits (x : Slt) : Prop where
 used : x.used = true
 ino : 1 ≤ x.blk.1 ∧ x.blk.1 ≤ 40
 gen : 0 ≤ x.blk.2.1 ∧ x.blk.2.1 ≤ 2147483647
 at_ : 0 ≤ x.blk.2.2 ∧ x.blk.2.2 < 8
 ver : x.ver ≤ 1099511627775
 size : x.data.size ≤ 64
instance (x : Slt) : Decidable x.fits :=
 decidable_of_iff (x.used = true ∧ (1 ≤ x.blk.1 ∧ x.blk.1 ≤ 40) ∧ (0 ≤ x.blk.2.1 ∧ x.blk.2.1 ≤ 2147483647) ∧ (0 ≤ x.blk.2.2 ∧ x.blk.2.2 < 8) ∧ x.ver ≤ 1099511627775 ∧ x.data.size ≤ 64)
   ⟨fun ⟨a, b, c, d, e, f⟩ => ⟨a, b, c, d, e, f⟩, fun ⟨a, b, c, d, e, f⟩ => ⟨a, b, c, d, e, f⟩⟩
def Slt.is (x : Slt) : Prop := x = Slt.no ∨ x.fits
instance (x : Slt) : Decidable x.is := by unfold Slt.is; infer_instance
def txBits (s : ByteArray) : List Bool := bitsN s.size 16 ++ s.data.toList.flatMap fun c => bitsN c.toNat 8
def Slt.bits (x : Slt) : List Bool := if x.used then bitsN 1 1 ++ bitsN x.dirty.toNat 1 ++ bitsN x.blk.1.toNat 6 ++ bitsN x.blk.2.1.toNat 31 ++ bitsN x.blk.2.2.toNat 3 ++ bitsN x.ver 40 ++ txBits x.data else []
def Slt.sec (x : Slt) : List Nat := sector x.bits
theorem c8_len : ∀ l : List UInt8, (l.flatMap fun c => bitsN c.toNat 8).length = 8 * l.length
 | [] => rfl
 | c :: l => by rw [List.flatMap_cons, List.length_append, bitsN_len, c8_len l, List.length_cons]; omega
theorem tx_len (s : ByteArray) : (txBits s).length = 16 + 8 * s.size := by
 unfold txBits
 rw [List.length_append, bitsN_len, c8_len]
 rfl
theorem Slt.bits_len {x : Slt} (h : x.is) : x.bits.length ≤ 1024 := by
 unfold Slt.bits
 rcases h with rfl | h
 · decide
 · rw [if_pos h.used]
   simp only [List.length_append, bitsN_len, tx_len]
   have := h.size
   omega
theorem Slt.sec_len {x : Slt} (h : x.is) : x.sec.length = 128 := sector_len (Slt.bits_len h)
theorem Slt.sec_lt (x : Slt) : ∀ c ∈ x.sec, c < 256 := sector_lt _
theorem no_sec : Slt.no.sec = List.replicate 128 0 := by decide +kernel
def bLess (a b : Blk) : Prop := a.1 < b.1 ∨ a.1 = b.1 ∧ (a.2.1 < b.2.1 ∨ a.2.1 = b.2.1 ∧ a.2.2 < b.2.2)
instance (a b : Blk) : Decidable (bLess a b) := by unfold bLess; infer_instance
theorem bLess_irrefl (a : Blk) : ¬ bLess a a := by unfold bLess; omega
theorem bLess_trans {a b c : Blk} (h : bLess a b) (k : bLess b c) : bLess a c := by unfold bLess at *; omega
theorem bLess_total {a b : Blk} (h : a ≠ b) : bLess a b ∨ bLess b a := by
 unfold bLess
 by_cases h1 : a.1 = b.1
 · by_cases h2 : a.2.1 = b.2.1
   · by_cases h3 : a.2.2 = b.2.2
     · exact absurd (Prod.ext h1 (Prod.ext h2 h3)) h
     · omega
   · omega
 · omega
end Go.Tn.Slo
namespace Go.Tn.Pc
open Go.Tn.Slo Go.Tn.Ck
structure PC where
 L : List Slt
 R : Rn
 num : Nat
def PC.at_ (c : PC) (i : Nat) : Slt := (c.L[i]?).getD Slt.no
def PC.find (c : PC) (b : Blk) : Option Nat := (List.range c.L.length).find? fun i => (c.at_ i).used && decide ((c.at_ i).blk = b)
def ringSet (r : Rn) (i : Nat) (x : Slt) : Rn := if x = Slt.no then r.drop i else if x.dirty then (r.use i).pin i else r.use i
def PC.set (c : PC) (i : Nat) (x : Slt) : PC := { c with L := c.L.set i x, R := ringSet c.R i x }
structure PC.Ok (c : PC) : Prop where
 len : c.R.L.length = c.L.length
 is : ∀ x ∈ c.L, x.is
 uniq : ∀ i j, i < c.L.length → j < c.L.length → (c.at_ i).used = true → (c.at_ j).used = true → (c.at_ i).blk = (c.at_ j).blk → i = j
 used : ∀ i, i < c.L.length → (c.R.at_ i).used = (c.at_ i).used
theorem is_used {x : Slt} (h : x.is) : x.used = true ↔ x ≠ Slt.no := by
 rcases h with rfl | h
 · exact ⟨(fun h => by cases h), fun h => absurd rfl h⟩
 · refine ⟨fun _ e => ?_, fun _ => h.used⟩
   have := h.used
   rw [e] at this
   cases this
theorem at_of {c : PC} {i : Nat} {x : Slt} (h : c.L[i]? = some x) : c.at_ i = x := by
 unfold PC.at_
 rw [h]
 rfl
theorem at_get {c : PC} {i : Nat} (h : i < c.L.length) : c.L[i]? = some (c.at_ i) := by
 unfold PC.at_
 rw [List.getElem?_eq_getElem h]
 rfl
theorem set_at {c : PC} {i : Nat} (hi : i < c.L.length) (x : Slt) (j : Nat) : (c.set i x).at_ j = if j = i then x else c.at_ j := by
 unfold PC.set PC.at_
 simp only
 rw [List.getElem?_set]
 by_cases h : j = i
 · subst h
   rw [if_pos rfl, if_pos rfl, if_pos hi]
   rfl
 · rw [if_neg h, if_neg (fun e => h e.symm)]
theorem find_some {c : PC} (h : c.Ok) {b : Blk} {i : Nat} : c.find b = some i ↔ i < c.L.length ∧ (c.at_ i).used = true ∧ (c.at_ i).blk = b := by
 unfold PC.find
 constructor
 · intro hf
   have h1 := List.find?_some hf
   have h2 := List.mem_range.1 (List.mem_of_find?_eq_some hf)
   simp only [Bool.and_eq_true, decide_eq_true_eq] at h1
   exact ⟨h2, h1⟩
 · rintro ⟨h1, h2, h3⟩
   refine find_range h1 (by simp [h2, h3]) fun j hj => ?_
   cases hq : ((c.at_ j).used && decide ((c.at_ j).blk = b)) with
   | false => rfl
   | true =>
     simp only [Bool.and_eq_true, decide_eq_true_eq] at hq
     have := h.uniq j i (by omega) h1 hq.1 h2 (hq.2.trans h3.symm)
     omega
theorem find_none {c : PC} {b : Blk} : c.find b = none ↔ ∀ i, i < c.L.length → (c.at_ i).used = true → (c.at_ i).blk ≠ b := by
 unfold PC.find
 rw [List.find?_eq_none]
 constructor
 · intro h i hi hu e
   have := h i (List.mem_range.2 hi)
   rw [hu, decide_eq_true e] at this
   exact this rfl
 · intro h i hi hq
   simp only [Bool.and_eq_true, decide_eq_true_eq] at hq
   exact h i (List.mem_range.1 hi) hq.1 hq.2
theorem ringSet_len (r : Rn) (i : Nat) (x : Slt) : (ringSet r i x).L.length = r.L.length := by
 have hp : ∀ (r : Rn) (p : Pl), (r.put i p).L.length = r.L.length := fun r p => by unfold Rn.put; simp
 unfold ringSet
 split
 · exact hp _ _
 · split
   · unfold Rn.pin
     split
     · rw [hp]; exact hp _ _
     · exact hp _ _
   · exact hp _ _
theorem ringSet_hand (r : Rn) (i : Nat) (x : Slt) : (ringSet r i x).hand = r.hand := by
 unfold ringSet Rn.pin
 split
 · rfl
 · split
   · split <;> rfl
   · rfl
theorem rn_at_put {r : Rn} {i : Nat} (hi : i < r.L.length) (p : Pl) (j : Nat) : (r.put i p).at_ j = if j = i then p else r.at_ j := by
 unfold Rn.at_ Rn.put
 simp only
 rw [List.getElem?_set]
 by_cases h : j = i
 · subst h
   rw [if_pos rfl, if_pos rfl, if_pos hi]
   rfl
 · rw [if_neg h, if_neg (fun e => h e.symm)]
theorem ringSet_at {r : Rn} {i : Nat} (hi : i < r.L.length) (x : Slt) (j : Nat) : (ringSet r i x).at_ j = if j = i then (if x = Slt.no then Pl.no else ⟨true, x.dirty, true⟩) else r.at_ j := by
 unfold ringSet
 by_cases hx : x = Slt.no
 · rw [if_pos hx, if_pos hx]
   exact rn_at_put hi _ _
 · rw [if_neg hx, if_neg hx]
   cases hd : x.dirty with
   | false =>
     rw [if_neg (by decide)]
     exact rn_at_put hi _ _
   | true =>
     rw [if_pos rfl]
     have h1 : (r.use i).at_ i = ⟨true, false, true⟩ := by
       unfold Rn.use
       rw [rn_at_put hi, if_pos rfl]
     unfold Rn.pin
     rw [h1, if_pos rfl, rn_at_put (by unfold Rn.use Rn.put; simpa using hi)]
     split
     · rfl
     · unfold Rn.use
       rw [rn_at_put hi, if_neg (by assumption)]
theorem PC.Ok.set {c : PC} (h : c.Ok) {i : Nat} (hi : i < c.L.length) {x : Slt} (hx : x.is) (hu : ∀ j, j < c.L.length → j ≠ i → (c.at_ j).used = true → (c.at_ j).blk ≠ x.blk ∨ x = Slt.no) : (c.set i x).Ok := by
 have hl : (c.set i x).L.length = c.L.length := by unfold PC.set; simp
 refine ⟨?_, fun y hy => ?_, fun j k hj hk h1 h2 h3 => ?_, fun j hj => ?_⟩
 · rw [hl]
   exact (ringSet_len _ _ _).trans h.len
 · rcases List.mem_or_eq_of_mem_set hy with hy | hy
   · exact h.is y hy
   · rw [hy]; exact hx
 · rw [hl] at hj hk
   rw [set_at hi] at h1 h3
   rw [set_at hi] at h2 h3
   by_cases hji : j = i
   · rw [if_pos hji] at h1 h3
     by_cases hki : k = i
     · omega
     · rw [if_neg hki] at h2 h3
       rcases hu k hk hki h2 with e | e
       · exact absurd h3.symm e
       · rw [e] at h1
         cases h1
   · rw [if_neg hji] at h1 h3
     by_cases hki : k = i
     · rw [if_pos hki] at h2 h3
       rcases hu j hj hji h1 with e | e
       · exact absurd h3 e
       · rw [e] at h2
         cases h2
     · rw [if_neg hki] at h2 h3
       exact h.uniq j k hj hk h1 h2 h3
 · rw [hl] at hj
   have hR : (c.set i x).R.at_ j = (ringSet c.R i x).at_ j := rfl
   rw [hR, ringSet_at (by rw [h.len]; exact hi), set_at hi]
   by_cases hji : j = i
   · rw [if_pos hji, if_pos hji]
     by_cases hn : x = Slt.no
     · rw [if_pos hn, hn]
       rfl
     · rw [if_neg hn]
       exact ((is_used hx).2 hn).symm
   · rw [if_neg hji, if_neg hji]
     exact h.used j hj
end Go.Tn.Pc
namespace Go.Tn.Slo
open Go.RowKit Go.Tn.Bt
def putX (st : Option (List Bool)) (x n : Nat) : Option (List Bool) := st.bind fun L => if x < 2 ^ n then some (L ++ bitsN x n) else none
end Go.Tn.Slo
namespace Go.Proofs.YtldimgchpgoggaaGreat
open Go.RowKit Go.Tn Go.Tn.Bt Go.Tn.Slo
def WrX (w : World) (a : Nat) : Option (List Bool) → Prop
 | some L => ∃ v, WrAt w a v L
 | none => ∃ v u, w.heap[a]? = some (.cells #[.bool true, v, .int .i64 u, .int .i64 2] 189 (0, 0))
theorem put_bad {w : World} {a : Nat} {v : Value} {u : Int} (h : w.heap[a]? = some (.cells #[.bool true, v, .int .i64 u, .int .i64 2] 189 (0, 0))) (x n : Int) : Calls Tryz.prog 92 #[.pointer (some ⟨a, 0, none⟩), .int .u64 x, .int .i64 n] w fun e w' => e = .returned (.pointer (some ⟨a, 0, none⟩)) ∧ w' = w := by
 have hc0 : w.cell? ⟨a, 0, none⟩ = some (.bool true) := cell_of h rfl
 have hc3 : w.cell? ⟨a, 3, none⟩ = some (.int .i64 2) := cell_of h rfl
 clear h
 go_enter Tryz.func92, Tryz.ntmps92
 go_wp2
 go_ret
 exact ⟨rfl, rfl⟩
theorem fail_any {w : World} {a : Nat} {v : Value} {u : Int} (h : w.heap[a]? = some (.cells #[.bool true, v, .int .i64 u, .int .i64 0] 189 (0, 0))) : Calls Tryz.prog 126 #[.pointer (some ⟨a, 0, none⟩), .int .i64 2] w
   fun e w' => e = .returned (.pointer (some ⟨a, 0, none⟩)) ∧ w'.heap[a]? = some (.cells #[.bool true, v, .int .i64 u, .int .i64 2] 189 (0, 0)) ∧ Mod (fun b => b = a) w w' := by
 have hc3 : w.cell? ⟨a, 3, none⟩ = some (.int .i64 0) := cell_of h rfl
 have hf3 : w.frozen? ⟨a, 3, none⟩ = false := free_of h
 have hend : (w.setCell ⟨a, 3, none⟩ (.int .i64 2)).heap[a]? = some (.cells #[.bool true, v, .int .i64 u, .int .i64 2] 189 (0, 0)) := by
   rw [heap_setCell_at h]
   rfl
 have HE := Lib.hid hend
 have HM := Lib.hid ((Mod.refl (fun b => b = a) w).setCell ⟨a, 3, none⟩ (.int .i64 2) (fun _ => rfl))
 clear h hend
 go_enter Tryz.func126, Tryz.ntmps126
 go_wp2
 go_ret
 exact ⟨rfl, HE.out, HM.out⟩
theorem put_wide {w : World} {a : Nat} {v : Value} {L : List Bool} (h : WrAt w a v L) (x n : Nat) (hn : n < 64) (hx : 2 ^ n ≤ x) (hx64 : x < 2 ^ 64) : Calls Tryz.prog 92 #[.pointer (some ⟨a, 0, none⟩), .int .u64 x, .int .i64 n] w
   fun e w' => e = .returned (.pointer (some ⟨a, 0, none⟩)) ∧ WrX w' a none ∧ Below a w w' := by
 have hc0 : w.cell? ⟨a, 0, none⟩ = some (.bool true) := cell_of h.blk rfl
 have hc3 : w.cell? ⟨a, 3, none⟩ = some (.int .i64 0) := cell_of h.blk rfl
 have hfl := fail_any h.blk
 have hal := lt_of_block h.blk
 have hn' : (n : Int) < 64 := by omega
 have hn0 : (0 : Int) ≤ n := by omega
 have hdn : decide ((n : Int) < 0) = false := by simp
 have hdm : decide (64 < (n : Int)) = false := by simp; omega
 have hq : ∃ q : Nat, (x : Int) / 2 ^ n = (q : Int) ∧ 1 ≤ q := by
   refine ⟨x / 2 ^ n, by norm_cast, ?_⟩
   exact (Nat.le_div_iff_mul_le (Nat.two_pow_pos n)).2 (by omega)
 obtain ⟨q, hq1, hq2⟩ := hq
 have hqn : (((q : Nat) : Int) == 0) = false := beq_eq_false_iff_ne.2 (by omega)
 clear h hx hx64 hq2
 go_enter Tryz.func92, Tryz.ntmps92
 go_wp2_with fail
 refine hfl.mono ?_
 rintro e w2 ⟨rfl, h2, hm⟩
 have H2 := Lib.hid h2
 have HM := Lib.hid hm
 clear hfl h2 hm
 go_wp2
 go_ret
 exact ⟨rfl, ⟨_, _, H2.out⟩, HM.out.below (Nat.le_of_lt hal) fun x hx e => by omega⟩
theorem put_x {w : World} {a : Nat} {st : Option (List Bool)} (h : WrX w a st) (x n : Nat) (hL : ∀ L, st = some L → L.length + n ≤ 400000) (hn : n < 64) (hx : x < 2 ^ 64) : Calls Tryz.prog 92 #[.pointer (some ⟨a, 0, none⟩), .int .u64 x, .int .i64 n] w
   fun e w' => e = .returned (.pointer (some ⟨a, 0, none⟩)) ∧ WrX w' a (putX st x n) ∧ Below a w w' := by
 cases st with
 | none =>
   obtain ⟨v, u, h⟩ := h
   refine (put_bad h x n).mono ?_
   rintro e w' ⟨rfl, rfl⟩
   exact ⟨rfl, ⟨v, u, h⟩, Below.refl _ _⟩
 | some L =>
   obtain ⟨v, h⟩ := h
   by_cases hxn : x < 2 ^ n
   · refine (put_bits w a v L h x n (hL L rfl) (by omega) hxn).mono ?_
     rintro e w' ⟨rfl, v', h', hb, -⟩
     have e1 : putX (some L) x n = some (L ++ bitsN x n) := by
       show (if x < 2 ^ n then _ else _) = _
       rw [if_pos hxn]
     rw [e1]
     exact ⟨rfl, ⟨v', h'⟩, hb⟩
   · refine (put_wide h x n hn (by omega) hx).mono ?_
     rintro e w' ⟨rfl, h', hb⟩
     have e1 : putX (some L) x n = none := by
       show (if x < 2 ^ n then _ else _) = _
       rw [if_neg hxn]
     rw [e1]
     exact ⟨rfl, h', hb⟩
def textX (st : Option (List Bool)) (s : ByteArray) : Option (List Bool) := st.map (· ++ txBits s)
def txPart (s : ByteArray) (k : Nat) : List Bool := bitsN s.size 16 ++ (s.data.toList.take k).flatMap fun c => bitsN c.toNat 8
theorem txPart_all (s : ByteArray) : txPart s s.size = txBits s := by
 unfold txPart txBits
 have : s.data.toList.length = s.size := rfl
 rw [List.take_of_length_le (by omega)]
theorem txPart_snoc (s : ByteArray) {k : Nat} (h : k < s.size) : txPart s (k + 1) = txPart s k ++ bitsN s[k].toNat 8 := by
 unfold txPart
 rw [List.take_succ_eq_append_getElem (by simpa using h), List.flatMap_append, List.append_assoc]
 simp
 rfl
theorem txPart_len (s : ByteArray) (k : Nat) : (txPart s k).length ≤ 16 + 8 * k := by
 unfold txPart
 rw [List.length_append, bitsN_len, c8_len, List.length_take]
 omega
theorem WrX.c0 {w : World} {a : Nat} {st : Option (List Bool)} (h : WrX w a st) : w.cell? ⟨a, 0, none⟩ = some (.bool true) := by
 cases st with
 | none =>
   obtain ⟨v, u, h⟩ := h
   exact cell_of h rfl
 | some L =>
   obtain ⟨v, h⟩ := h
   exact cell_of h.blk rfl
set_option maxRecDepth 20000 in
set_option maxHeartbeats 2000000 in
theorem text_x {w : World} {a : Nat} {st : Option (List Bool)} (h : WrX w a st) (s : ByteArray) (hs : s.size < 65536) (hL : ∀ L, st = some L → L.length + 16 + 8 * s.size ≤ 400000) : Calls Tryz.prog 95 #[.pointer (some ⟨a, 0, none⟩), .string s] w
   fun e w' => e = .returned (.pointer (some ⟨a, 0, none⟩)) ∧ WrX w' a (textX st s) ∧ Below a w w' := by
 have hc0 := h.c0
 have hsz : decide ((65536 : Int) ≤ ((s.size : Nat) : Int)) = false := decide_eq_false (by omega)
 have hp := put_x h s.size 16 (fun L e => by have := hL L e; omega) (by decide) (by omega)
 have e1 : putX st s.size 16 = st.map (· ++ txPart s 0) := by
   cases st with
   | none => rfl
   | some L =>
     show (if s.size < 2 ^ 16 then _ else _) = some (L ++ txPart s 0)
     rw [if_pos (by omega)]
     simp [txPart]
 rw [e1] at hp
 have HL := Lib.hid hL
 have hwr : IntKind.u64.wrap ((s.size : Nat) : Int) = ((s.size : Nat) : Int) := by rw [Bt.wrap64, Nat.mod_eq_of_lt (by omega)]
 have HWR := Lib.hid hwr
 have HS := Lib.hid hs
 clear h hL e1 hs hwr
 go_enter Tryz.func95, Tryz.ntmps95
 go_upto_region 5 with fail
 clear hsz
 have hwr := HWR.out
 go_wp2_with fail
 refine hp.mono ?_
 rintro e w2 ⟨rfl, hW2, hb2⟩
 have HW2 := Lib.hid hW2
 have HB2 := Lib.hid hb2
 clear hp hW2 hb2 hc0 hwr
 go_wp2_with fail
 go_loopw [28] (fun iv wi => ∃ k : Nat, k ≤ s.size ∧ iv = .int .i64 k ∧ WrX wi a (st.map (· ++ txPart s k)) ∧ Below a w wi) (fun iv _ => s.size - (intOf iv).toNat)
 case atStart => exact ⟨0, Nat.zero_le _, rfl, HW2.out, HB2.out⟩
 case round =>
   obtain ⟨k, hk, rfl, hW, hb⟩ := hrel
   by_cases hks : k < s.size
   · have hp := put_x hW s[k].toNat 8 (fun L e => by
       cases st with
       | none => cases e
       | some L0 =>
         cases e
         have := HL.out L0 rfl
         have := txPart_len s k
         rw [List.length_append]
         omega) (by decide) (by have := s[k].toNat_lt; omega)
     have e1 : putX (st.map (· ++ txPart s k)) s[k].toNat 8 = st.map (· ++ txPart s (k + 1)) := by
       cases st with
       | none => rfl
       | some L =>
         show (if s[k].toNat < 2 ^ 8 then _ else _) = some (L ++ txPart s (k + 1))
         rw [if_pos (by have := s[k].toNat_lt; omega), txPart_snoc s hks, List.append_assoc]
     rw [e1] at hp
     have HB := Lib.hid hb
     have hlt : s[k].toNat < 256 := s[k].toNat_lt
     have hbw : IntKind.u64.wrap ((s[k].toNat : Nat) : Int) = ((s[k].toNat : Nat) : Int) := by rw [Bt.wrap64, Nat.mod_eq_of_lt (by omega)]
     have hkb : (k : Int) < 100000 := by have := HS.out; omega
     clear hW hb e1 hlt
     go_wp2_with fail
     refine hp.mono ?_
     rintro e w3 ⟨rfl, hW3, hb3⟩
     have HW3 := Lib.hid hW3
     have HB3 := Lib.hid (HB.out.trans hb3)
     clear hp hW3 hb3
     go_wp2
     go_roundw
     case rel => exact ⟨k + 1, by omega, by go_num, HW3.out, HB3.out⟩
     case measure => simp [intOf]; omega
   · obtain rfl : k = s.size := by omega
     rw [txPart_all] at hW
     have HW := Lib.hid hW
     have HB := Lib.hid hb
     clear hW hb
     go_wp2
     go_ret
     exact ⟨rfl, HW.out, HB.out⟩
theorem done_x {w : World} {a : Nat} {st : Option (List Bool)} (h : WrX w a st) (hl : ∀ L, st = some L → L.length ≤ 400000) : Calls Tryz.prog 96 #[.pointer (some ⟨a, 0, none⟩)] w
   fun e w' => (∃ L v', st = some L ∧ e = .returned (.tuple #[v', .int .i64 0]) ∧ LOut en8 1 5 w.heap.size w' v' (pack L) ∧ Below w.heap.size w w') ∨ (st = none ∧ e = .returned (.tuple #[.slice none 0 0, .int .i64 2]) ∧ Below w.heap.size w w') := by
 cases st with
 | some L =>
   obtain ⟨v, h⟩ := h
   refine (done_any w a v L h (hl L rfl)).mono ?_
   rintro e w' ⟨v', rfl, hO, hb⟩
   exact .inl ⟨L, v', rfl, rfl, hO, hb⟩
 | none =>
   obtain ⟨v, u, h⟩ := h
   have hc0 : w.cell? ⟨a, 0, none⟩ = some (.bool true) := cell_of h rfl
   have hc3 : w.cell? ⟨a, 3, none⟩ = some (.int .i64 2) := cell_of h rfl
   clear h hl
   have hd : Calls Tryz.prog 96 #[.pointer (some ⟨a, 0, none⟩)] w fun e w' => e = .returned (.tuple #[.slice none 0 0, .int .i64 2]) ∧ Below w.heap.size w w' := by
     go_enter Tryz.func96, Tryz.ntmps96
     go_upto_region 4 with fail
     have hS : w.drew.cell? ⟨a, 3, none⟩ = some (.int .i64 2) := hc3
     refine wp_region_x (fun w' => w'.cell? ⟨a, 3, none⟩ = some (.int .i64 2)) [(0, 1), (1, 1), (2, 1), (3, 0), (4, 1), (5, 1)] (by kernel_rfl) (by kernel_rfl) (by intro d v c a w h; cases d <;> exact h) ?_
     iterate 3 (refine x_take rfl (fun K hK => ?_); go_simp; refine hK _ ?_; clear hK K)
     refine x_read rfl hS (fun w' h => exec_load1 ⟨⟨_, Tryz.underlying26, rfl⟩⟩ rfl h) ?_
     iterate 2 (refine x_take rfl (fun K hK => ?_); go_simp; refine hK _ ?_; clear hK K)
     refine x_nil ?_
     go_wp2
     go_ret2
     exact ⟨rfl, Below.refl _ _ |>.drew⟩
   exact hd.mono fun e w' he => .inr ⟨rfl, he⟩
end Go.Proofs.YtldimgchpgoggaaGreat
