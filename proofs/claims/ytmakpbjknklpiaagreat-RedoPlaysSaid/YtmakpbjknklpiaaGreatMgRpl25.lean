/- The document's disk in memory. -/
import Derived.Test.YtmakpbjknklpiaaGreatMgRpl24
import Derived.Test.YtmakpbjknklpiaaGreatMgRpl20
import Derived.Test.YtmakpbjknklpiaaGreatMgRpl23
/- A disk with a fuse: what a write leaves. Plain. -/
namespace Go.Proofs.YtmakpbjknklpiaaGreat
open Go.RowKit Go.Tn Go.Tn.Bt Go.Tn.Lp Go.Tn.Dk
theorem Base.congr {d d' : Dsk} {l l' : Lg} {F : Nat} {D : List Rc} (hb : Base d l F D) (ht : l.tail ≤ endCt l.tail D) (hL : d'.L.length = d.L.length) (hn2 : 2 ≤ l.n) (hg : ∀ i, i < 2 + l.n → d'.get i = d.get i) (h1 : l'.n = l.n) (h2 : l'.epoch = l.epoch) (h3 : l'.gen = l.gen) (h4 : l'.tail = l.tail) : Base d' l' F D := by
  have hlt : ∀ c, 2 + c % l.n < 2 + l.n := fun c => by have := Nat.mod_lt c (show 0 < l.n by omega); omega
  have hh : l'.homes d' = l.homes d := by unfold Lg.homes; rw [hL, h1]
  refine ⟨by rw [h3, h4]; exact hb.hd.same fun i hi => hg i (by omega), by rw [hh, h4]; exact hb.rise, fun q hq => ?_, by rw [h4, h1]; exact hb.room, by rw [h2]; exact hb.fle, ?_, fun c q c1 c2 hq => ?_⟩
  · rw [h4] at hq
    rw [h1, hg _ (hlt _)]
    exact hb.slots q hq
  · rw [h1, h2, h3, h4]
    exact hb.stop.imp id fun hs => stepB_same' hL ht (fun c _ _ => pieceB_same (hg _ (hlt _))) hs
  · rw [h4] at c1 c2
    rw [h1] at c2 hq
    rw [h2]
    exact hb.old c q c1 c2 ((pieceB_same (hg _ (hlt _))).symm.trans hq)
theorem Keep.congr {d d' : Dsk} {l l' : Lg} (h : Keep d l) (hg : ∀ i, i < 2 + l.n → d'.get i = d.get i) (h0 : ∀ i, i < 2 → d'.get i = d.get i) (h1 : l'.n = l.n) (h2 : l'.epoch = l.epoch) (h3 : l'.gen = l.gen) : Keep d' l' :=
  ⟨fun i hi => by rw [h1] at hi; rw [hg i hi, h2]; exact h.sect i hi, fun i hi p hp hpe => by rw [h0 i hi] at hp; rw [h2] at hpe; rw [h3]; exact h.hdct i hi p hp hpe, by rw [h2]; exact h.ep⟩
theorem homesB_of (l : Lg) (d : Dsk) : homesB l d = homesOf l.n d l.H := by
  unfold homesB homesOf
  exact List.map_congr_left fun k _ => home_getD l d k
/-- The homes that a log shows are those that its records leave. -/
theorem Rg.homes_eq {d : Dsk} {l : Lg} {F : Nat} {D P : List Rc} (h : Rg d l F D P) : homesB l d = homesOf l.n d.last (applyH (fun _ => none) (D ++ P)) := by
  rw [homesB_of, h.H]
  exact homesOf_same (d := d.last) rfl fun k _ _ => h.rest fun q _ => by have := h.fit.n2; have := Nat.mod_lt q.ct (show 0 < l.n by omega); omega
theorem steps_last {n : Nat} {d : Dsk} {D P : List Rc} : ∃ S0, steps n d D P = S0 ++ [homesOf n d (applyH (fun _ => none) (D ++ P))] := by
  unfold steps
  rw [List.range_succ, List.map_append, List.map_singleton, List.take_length]
  exact ⟨_, rfl⟩
theorem KLive.last {n i : Nat} {l : Lg} {d : Dsk} {S : List (List (List Nat))} (h : KLive n i l d S) : ∃ S0, S = S0 ++ [homesB l d] := by
  obtain ⟨F, D, P, hr, hF, rfl⟩ := h.ex
  obtain ⟨S0, e⟩ := steps_last (n := n) (d := d.last) (D := D) (P := P)
  exact ⟨S0, by rw [e, hr.homes_eq, h.rn]⟩
theorem KLive.mono {n i j : Nat} {l : Lg} {d : Dsk} {S : List (List (List Nat))} (h : KLive n i l d S) (hij : i ≤ j) : KLive n j l d S :=
  ⟨h.ex, h.kp, h.on, h.err, h.rn, by have := h.ep; omega, by have := h.nx; omega, by have := h.gen; omega⟩
theorem KDead.mono {n i j : Nat} {l : Lg} {d : Dsk} {S : List (List (List Nat))} (h : KDead n i l d S) (hij : i ≤ j) : KDead n j l d S :=
  ⟨fun keep torn => by
    obtain ⟨gen, tail, F, D, h1, h2, h3, h4, h5, h6⟩ := h.outs keep torn
    exact ⟨gen, tail, F, D, h1, by omega, by omega, h4, fun k hk => (h5 k hk).mono (by omega), h6⟩, h.off, h.err, h.rn, h.fit, by have := h.nx; omega, h.dok⟩
theorem KLive.outs {n i : Nat} {l : Lg} {d : Dsk} {S : List (List (List Nat))} (h : KLive n i l d S) : Outs n i d S := by
  obtain ⟨F, D, P, hr, hF, rfl⟩ := h.ex
  have hn := hr.next
  have h1 := hr.fit.next
  have h2 := h.nx
  refine live_outs (m := (allPcs (endCt l.tail D) P).length) hr.base h.kp hr.fit hr.dok hr.gs (by omega) (by rw [List.take_length]; exact hr.q) h.rn hF h.gen (by omega) h.ep
/-- A write where the power is on. -/
theorem klive_write {n i : Nat} {l : Lg} {d : Dsk} {S : List (List (List Nat))} (h : KLive n i l d S) (hi : i ≤ 1000) {ps : List Pt} (hb : ∀ p ∈ ps, ∀ x ∈ p.2, x < 256) (hok : (l.write d ps).2.1.ok) :
    ((l.write d ps).2.2 = 0 ∧ KLive n (i + 1) (l.write d ps).1 (l.write d ps).2.1 (S ++ [homesB (l.write d ps).1 (l.write d ps).2.1])) ∨
    ((l.write d ps).2.2 = 7 ∧ KDead n (i + 1) (l.write d ps).1 (l.write d ps).2.1 (S ++ [overB (homesB l d) ps])) ∨
    ((l.write d ps).2.2 ≠ 0 ∧ (l.write d ps).2.2 ≠ 7 ∧ (l.write d ps).1 = l ∧ (l.write d ps).2.1 = d) := by
  have h' := h
  obtain ⟨⟨F, D, P, hr, hF, hS⟩, hkp, hon, herr, hrn, hep, hnx, hgen⟩ := h
  cases ht : transB ps (l.homes d) with
  | false =>
    rw [write_arg herr ht]
    exact .inr (.inr ⟨by simp, by simp, rfl, rfl⟩)
  | true =>
    have hc := cut_ok (ep := l.epoch) (ct := l.next) ht (by omega) (by omega)
    by_cases hf : (cutL l.epoch l.next (recB ps)).length ≤ l.free
    · have hlen : (cutL l.epoch l.next (recB ps)).length = (⟨l.epoch, ps⟩ : Rc).n := by rw [cutL_len]; rfl
      have hsm : (cutL l.epoch l.next (recB ps)).length ≤ 100 := by
        have := recN ht
        rw [cutL_len]
        omega
      have hn := hr.next
      have hfr : l.free = l.n - (l.next - l.tail) := rfl
      have hl1 := hr.fit.tail
      have hl2 := hr.fit.next
      have hgs : Goods (l.homes d) l.epoch (endCt l.tail D) (P ++ [⟨l.epoch, ps⟩]) := (goods_append P _ _).2 ⟨hr.gs, rfl, ⟨ht, hb, by rw [← hn.2.1]; exact hc⟩, trivial⟩
      have hend : endCt (endCt l.tail D) (P ++ [⟨l.epoch, ps⟩]) = l.next + (cutL l.epoch l.next (recB ps)).length := by
        rw [endCt_append, ← hn.2.1, hlen]
        rfl
      have hX : homesOf n d.last (applyH (fun _ => none) (D ++ (P ++ [⟨l.epoch, ps⟩]))) = overB (homesB l d) ps := by
        rw [hr.homes_eq, ← List.append_assoc, applyH_append, hrn]
        unfold homesOf
        rw [over_take]
        · rfl
        · intro p hp
          have h1 := ((transB_iff ps _).1 ht).2.2.1 p hp
          have h2 : l.homes d = d.last.L.length - 2 - n := by unfold Lg.homes; rw [hrn]; rfl
          rw [h2] at h1
          exact ⟨h1.1, h1.2.1⟩
      have hpl := putPcs_live l.n (cutL l.epoch l.next (recB ps)) d hon
      have hw : l.write d ps = if (putPcs l.n (cutL l.epoch l.next (recB ps)) d).2 ≠ 0 then ({ l with err := (putPcs l.n (cutL l.epoch l.next (recB ps)) d).2 }, (putPcs l.n (cutL l.epoch l.next (recB ps)) d).1, (putPcs l.n (cutL l.epoch l.next (recB ps)) d).2)
          else ({ l with next := l.next + (cutL l.epoch l.next (recB ps)).length, H := takeH l.H ps }, (putPcs l.n (cutL l.epoch l.next (recB ps)) d).1, 0) := by
        unfold Lg.write
        rw [if_neg (by omega), if_neg (by rw [ht]; decide), hc]
        simp only
        rw [if_neg (by omega)]
      rw [hw] at hok ⊢
      generalize putPcs l.n (cutL l.epoch l.next (recB ps)) d = r at *
      obtain ⟨d', c⟩ := r
      simp only at hpl
      rcases hpl with ⟨rfl, p2, p3, p4⟩ | ⟨rfl, p2, p3, m, p4⟩
      · rw [if_neg (by simp)] at hok ⊢
        simp only at hok ⊢
        have hr' := hr.write ht hb hc hf p3 p4 hok
        have hlg : ∀ i, d'.last.get i = d.last.get i := fun i => by rw [last_get, last_get, p3]
        refine .inl ⟨trivial, ⟨F, D, _, hr', hF, ?_⟩, hkp.congr (fun i _ => hlg i) (fun i _ => hlg i) rfl rfl rfl, p2, herr, hrn, by simp only; omega, by simp only; omega, by simp only; omega⟩
        have e1 : ∀ H, homesOf n d'.last H = homesOf n d.last H := fun H => homesOf_same (by show d'.L.length = d.L.length; rw [p3]) fun k _ _ => hlg _
        rw [hr'.homes_eq, hS, steps_snoc]
        have e2 : steps n d'.last D P = steps n d.last D P := by
          unfold steps
          exact List.map_congr_left fun j _ => e1 _
        rw [e2]
        show _ = _
        rw [show ({ l with next := l.next + (cutL l.epoch l.next (recB ps)).length, H := takeH l.H ps } : Lg).n = n from hrn]
      · rw [if_pos (by simp)] at hok ⊢
        simp only at hok ⊢
        have hL : d'.L.length = d.L.length := by rw [p3]
        have hlg : ∀ i, d'.last.get i = d.last.get i := fun i => by rw [last_get, last_get, p3]
        have hfit := hr.fit.disk hL
        have hhd : l.homes d' = l.homes d := by unfold Lg.homes; rw [hL]
        have hb' : Base d'.last l F D := hr.base.congr (by omega) hL hr.fit.n2 (fun i _ => hlg i) rfl rfl rfl rfl
        have hk' : Keep d'.last l := hkp.congr (fun i _ => hlg i) (fun i _ => hlg i) rfl rfl rfl
        have ho := live_outs (n := n) (i := i + 1) (d := d') (l := l) (F := F) (D := D) (P := P ++ [⟨l.epoch, ps⟩]) (m := (allPcs (endCt l.tail D) P).length + m) hb' hk' hfit hok (by rw [hhd]; exact hgs) (by omega) (by
          rw [p4, hr.q, allPcs_append, List.take_append, List.take_of_length_le (l := allPcs (endCt l.tail D) P) (by omega), Nat.add_sub_cancel_left, ← hn.2.1]
          unfold ringQ
          rw [List.map_append]
          show _ = _ ++ List.map _ (List.take m ((⟨l.epoch, ps⟩ : Rc).pcs l.next ++ []))
          rw [List.append_nil]
          rfl) hrn hF (by omega) (by omega) (by omega)
        refine .inr (.inl ⟨trivial, ?_, p2, rfl, hrn, ⟨hfit.n2, hfit.nd, hfit.epoch, hfit.gen, hfit.tail, hfit.next, by simp only; decide, hfit.H⟩, by simp only; omega, hok⟩)
        rw [steps_snoc] at ho
        have e1 : ∀ H, homesOf n d'.last H = homesOf n d.last H := fun H => homesOf_same hL fun k _ _ => hlg _
        have e2 : steps n d'.last D P = steps n d.last D P := by
          unfold steps
          exact List.map_congr_left fun j _ => e1 _
        rw [e2, e1, hX, ← hS] at ho
        exact ho
    · rw [write_full herr ht hc (by omega)]
      exact .inr (.inr ⟨by simp, by simp, rfl, rfl⟩)
end Go.Proofs.YtmakpbjknklpiaaGreat

/- A disk with a fuse: Sync, a crash, a new disk. Plain. -/
namespace Go.Proofs.YtmakpbjknklpiaaGreat
open Go.RowKit Go.Tn Go.Tn.Bt Go.Tn.Lp Go.Tn.Dk
theorem Keep.flush {d d' : Dsk} {l l' : Lg} {F : Nat} {D P : List Rc} (h : Rg d l F D P) (hk : Keep d.last l) (hL : d'.L = laid d.Q d.L) (h1 : l'.n = l.n) (h2 : l'.epoch = l.epoch) (h3 : l'.gen = l.gen) : Keep d'.last l' := by
  have hnd := h.fit.nd
  have hg : ∀ i, i < d.L.length → d'.last.get i = d.get i := fun i hi => by
    rw [last_get, hL, laid_get _ _ _ hi]
    rfl
  have hpb := pcs_byte P _ h.gs
  refine ⟨fun i hi => ?_, fun i hi p hp hpe => ?_, by rw [h2]; exact hk.ep⟩
  · rw [h1] at hi
    rw [hg i (by omega), h2, get_last]
    rcases seen_or d.Q i (d.last.get i) with e | ⟨x, hx, _, e⟩
    · rw [e]
      exact hk.sect i hi
    · rw [e]
      rw [h.q] at hx
      obtain ⟨q, hq, rfl⟩ := List.mem_map.1 hx
      obtain ⟨hqo, hqb, hqe⟩ := hpb q hq
      have := seal_sect hqo hqb
      rw [hqe] at this
      exact this
  · rw [hg i (by omega), h.rest (fun q _ => by omega)] at hp
    rw [h3]
    exact hk.hdct i hi p hp (by rw [← h2]; exact hpe)
/-- Flushed: one state is left. -/
theorem klive_flush {n i : Nat} {l : Lg} {d : Dsk} {S : List (List (List Nat))} (h : KLive n i l d S) (hd : d.flush.ok) :
    (d.dead = 0 ∧ KLive n i l d.flush [homesB l d] ∧ homesB l d.flush = homesB l d ∧ d.flush.Q = []) ∨ (d.dead = 7 ∧ KDead n i { l with err := 7 } d.flush S) := by
  obtain ⟨F, D, P, hr, hF, hS⟩ := h.ex
  rcases live_flush (d := d) with ⟨h1, h2, h3, h4⟩ | ⟨h1, h2, h3, h4⟩
  · have hL : d.flush.L.length = d.L.length := by rw [h3]
    have hlg : ∀ j, d.flush.last.get j = d.last.get j := fun j => by rw [last_get, last_get, h3]
    have hn := hr.next
    have hf1 := hr.fit.next
    have hf2 := h.nx
    have hfit := hr.fit.disk hL
    have hhd : l.homes d.flush = l.homes d := by unfold Lg.homes; rw [hL]
    have ho := live_outs (n := n) (i := i) (d := d.flush) (l := l) (F := F) (D := D) (P := P) (m := (allPcs (endCt l.tail D) P).length) (hr.base.congr (by omega) hL hr.fit.n2 (fun j _ => hlg j) rfl rfl rfl rfl) (h.kp.congr (fun j _ => hlg j) (fun j _ => hlg j) rfl rfl rfl) hfit hd (by rw [hhd]; exact hr.gs) (by omega) (by rw [List.take_length, h4]; exact hr.q) h.rn hF h.gen (by omega) h.ep
    refine .inr ⟨h1, ?_, h2, rfl, h.rn, ⟨hfit.n2, hfit.nd, hfit.epoch, hfit.gen, hfit.tail, hfit.next, by simp, hfit.H⟩, h.nx, hd⟩
    have e2 : steps n d.flush.last D P = steps n d.last D P := by
      unfold steps
      exact List.map_congr_left fun j _ => homesOf_same hL fun k _ _ => hlg _
    rw [e2, ← hS] at ho
    exact ho
  · have hr' := hr.flush h3 h4 hd
    have hho : homesB l d.flush = homesB l d := by
      rw [homesB_of, homesB_of]
      refine homesOf_same (flush_L d) fun k hk _ => flush_get h3 h4 (by omega)
    refine .inl ⟨h1, ⟨⟨F, _, _, hr', hF, ?_⟩, Keep.flush hr h.kp h3 rfl rfl rfl, h2, h.err, h.rn, h.ep, h.nx, h.gen⟩, hho, h4⟩
    rw [← hho, hr'.homes_eq, h.rn]
    rfl
theorem klive_sync {n i : Nat} {l : Lg} {d : Dsk} {S : List (List (List Nat))} (h : KLive n i l d S) (hok : (l.sync d).2.ok) :
    ((l.sync d).1.err = 0 ∧ KLive n i (l.sync d).1 (l.sync d).2 [homesB l d] ∧ homesB (l.sync d).1 (l.sync d).2 = homesB l d) ∨ ((l.sync d).1.err = 7 ∧ KDead n i (l.sync d).1 (l.sync d).2 S) := by
  have hs : l.sync d = ({ l with err := d.dead }, d.flush) := by
    unfold Lg.sync
    rw [if_neg (by have := h.err; omega)]
  rw [hs] at hok ⊢
  simp only at hok ⊢
  have he := h.err
  obtain ⟨ln, le, lg, lt, lx, lH, lr⟩ := l
  simp only at he
  subst he
  rcases klive_flush h hok with ⟨h1, h2, h3, -⟩ | ⟨h1, h2⟩
  · rw [h1]
    exact .inl ⟨rfl, h2, h3⟩
  · rw [h1]
    exact .inr ⟨rfl, h2⟩
/-- Behind a crash: opened, one of the states. -/
theorem kcrash {n i : Nat} {d : Dsk} {S : List (List (List Nat))} (ho : Outs n i d S) (hd : d.ok) (hn2 : 2 ≤ n) (hnd : n + 3 ≤ d.L.length) (hi : i ≤ 200) (keep : List Int) (torn : Int) :
    ∃ l2, openB (d.crash keep torn) n = some l2 ∧ newestB (d.crash keep torn) (2 + n) < 16777215 ∧ KLive n (i + 1) l2 (d.crash keep torn) [homesB l2 (d.crash keep torn)] ∧ homesB l2 (d.crash keep torn) ∈ S := by
  obtain ⟨gen, tail, F, D, hs, hg, ht, hF, hse, hm⟩ := ho keep torn
  have hdc := hd.crash keep torn
  have hL := crash_L d keep torn
  obtain ⟨l2, ho2, e1, e2, e3, e4, e5, e6, e7, e8, hr, hk⟩ := hs.open_ hdc (crash_Q d keep torn) hn2 (by omega) (by omega) hF hse (by omega)
  have hh := hr.homes_eq
  rw [List.append_nil, last_of_none (crash_Q d keep torn), e1] at hh
  refine ⟨l2, ho2, e8, ⟨⟨F, D, [], hr, hF, ?_⟩, hk, rfl, e7, e1, by omega, by omega, by omega⟩, by rw [hh]; exact hm⟩
  rw [hr.homes_eq, e1]
  rfl
theorem kinit {n size : Nat} (h1 : 2 ≤ n) (h2 : n + 3 ≤ size) (h3 : size ≤ 4096) : KLive n 0 (log0 n 1 0 0) (newD size) [homesB (log0 n 1 0 0) (newD size)] := by
  have hok := newD_ok (n := size) (by omega) (by omega)
  have hL : (newD size).L.length = size := by simp [newD]
  have hz : ∀ i, i < 2 + n → SectA 0 ((newD size).get i) := fun i hi => by
    rw [newd_get (by omega)]
    refine ⟨List.length_replicate, fun x hx => ?_, ?_, ?_, ?_⟩
    · rw [List.eq_of_mem_replicate hx]
      decide
    all_goals decide
  have hr : Rg (newD size) (log0 n 1 0 0) 1 [] [] := by
    refine ⟨(log0_fit (by omega) (by omega) (by decide) (by decide)), hok, ⟨.inr ⟨head_zero (by omega), rfl, rfl, rfl⟩, trivial, (fun q hq => by cases hq), Nat.le_add_right _ _, Nat.le_refl _, .inl rfl, fun c q c1 c2 hq => ?_⟩, rfl, trivial, rfl, rfl⟩
    have c2 : c < 0 + n := c2
    have hq : pieceB (newD size) n c = some q := hq
    show q.ep < 1
    have hm := Nat.mod_lt c (show 0 < n by omega)
    unfold pieceB at hq
    rw [newd_get (by omega), unseal_zero] at hq
    simp only at hq
    split at hq
    · cases hq
      decide
    · cases hq
  refine ⟨⟨1, [], [], hr, by decide, ?_⟩, ⟨fun i hi => ((hz i hi).next (Nat.lt_succ_self 0) : Sect 1 ((newD size).get i)), fun i hi p hp hpe => ?_, by show 1 < 65536; decide⟩, rfl, rfl, rfl, by show 1 ≤ 256 * 0 + 1; decide, Nat.zero_le _, Nat.zero_le _⟩
  · rw [hr.homes_eq]
    rfl
  · have hp : unsealB ((newD size).get i) = some p := hp
    rw [newd_get (by omega), unseal_zero] at hp
    cases hp
    exact Nat.le_refl _
end Go.Proofs.YtmakpbjknklpiaaGreat

/- A disk with a fuse: Checkpoint. Plain. -/
namespace Go.Proofs.YtmakpbjknklpiaaGreat
open Go.RowKit Go.Tn Go.Tn.Bt Go.Tn.Lp Go.Tn.Dk
theorem KDead.sub {n i : Nat} {l : Lg} {d : Dsk} {S T : List (List (List Nat))} (h : KDead n i l d S) (hs : ∀ x ∈ S, x ∈ T) : KDead n i l d T :=
  ⟨fun keep torn => by
    obtain ⟨gen, tail, F, D, h1, h2, h3, h4, h5, h6⟩ := h.outs keep torn
    exact ⟨gen, tail, F, D, h1, h2, h3, h4, h5, hs _ h6⟩, h.off, h.err, h.rn, h.fit, h.nx, h.dok⟩
/-- Homes are brought, or a head is saved, where nothing waits. -/
theorem kcheck_bring {n i : Nat} {l : Lg} {d : Dsk} {F : Nat} {D : List Rc} (hr : Rg d l F D []) (hkp : Keep d.last l) (hQ : d.Q = []) (hF : F ≤ 16777215) (hrn : l.n = n) (hep : l.epoch ≤ 256 * i + 1) (hnx : l.next ≤ 100 * i) (hgen : l.gen ≤ i) {d' : Dsk}
    (hL : d'.L = d.L) (hQ' : ∃ m, d'.Q = homeQ l ((l.keys d).take m)) : Outs n i d' [homesB l d] := by
  intro keep torn
  have hn2 := hr.fit.n2
  have hLl : d'.last.L.length = d.last.L.length := by show d'.L.length = d.L.length; rw [hL]
  have hlg : ∀ j, d'.last.get j = d.last.get j := fun j => by rw [last_get, last_get, hL]
  have hb : Base d'.last l F D := hr.base.congr hr.next.2.2 hLl hn2 (fun j _ => hlg j) rfl rfl rfl rfl
  have hk : Keep d'.last l := hkp.congr (fun j _ => hlg j) (fun j _ => hlg j) rfl rfl rfl
  obtain ⟨m, hm⟩ := hQ'
  obtain ⟨h1, h2, h3⟩ := crash_homes (keep := keep) (torn := torn) hb hk hn2 (fun x hx => by
    rw [hm] at hx
    obtain ⟨k, hk, rfl⟩ := List.mem_map.1 hx
    obtain ⟨-, b, hb⟩ := mem_keys (List.mem_of_mem_take hk)
    exact ⟨k, b, rfl, hb⟩)
  have hnx' := hr.nx
  rw [List.append_nil] at hnx'
  have hH := hr.H
  rw [List.append_nil] at hH
  subst hrn
  refine ⟨l.gen, l.tail, F, D, h1, hgen, by omega, hF, fun j hj => (h2 j hj).mono (by omega), List.mem_singleton.2 ?_⟩
  rw [homesB_of, hH]
  refine homesOf_same (by rw [crash_L, hL]) fun k _ hk0 => ?_
  rw [h3 k (by rw [hH]; exact hk0), hlg]
  rw [last_of_none hQ]
theorem klive_check {n i : Nat} {l : Lg} {d : Dsk} {S : List (List (List Nat))} (h : KLive n i l d S) (hi : i ≤ 1000) (hok : (l.check d).2.1.ok) :
    ((l.check d).2.2 = 0 ∧ KLive n (i + 1) (l.check d).1 (l.check d).2.1 [homesB l d] ∧ homesB (l.check d).1 (l.check d).2.1 = homesB l d) ∨ ((l.check d).2.2 = 7 ∧ KDead n (i + 1) (l.check d).1 (l.check d).2.1 S) := by
  have hdok : d.ok := by obtain ⟨F, D, P, hr, -, -⟩ := h.ex; exact hr.dok
  obtain ⟨S0, hS0⟩ := h.last
  have hsub : ∀ x ∈ [homesB l d], x ∈ S := fun x hx => by rw [hS0]; exact List.mem_append.2 (.inr hx)
  have hs : l.sync d = ({ l with err := d.dead }, d.flush) := by
    unfold Lg.sync
    rw [if_neg (by have := h.err; omega)]
  have he := h.err
  have hg := h.gen
  have hnx := h.nx
  rcases klive_flush h hdok.flush with ⟨h1, h2, h3, hQ1⟩ | ⟨h1, h2⟩
  · obtain ⟨F, D, P, hr, hF, hS⟩ := h2.ex
    have hP : P = [] := by
      have hl := congrArg List.length hS
      unfold steps at hl
      simp at hl
      exact hl
    subst hP
    have hse : ({ l with err := d.dead } : Lg) = l := by
      rw [h1]
      obtain ⟨ln, le, lg, lt, lx, lH, lr⟩ := l
      simp only at he
      subst he
      rfl
    rw [hse] at hs
    have hkp := h2.kp
    have hon := h2.on
    have hfl := flush_L d
    rw [← h3] at hsub ⊢
    rw [last_of_none hQ1] at hkp
    generalize d.flush = d1 at *
    have hn2 := hr.fit.n2
    have hnd := hr.fit.nd
    have hb1 := hr.base
    rw [last_of_none hQ1] at hb1
    have hnx1 : l.next = endCt l.tail D := by have := hr.nx; rwa [List.append_nil] at this
    have hH := hr.H
    rw [List.append_nil] at hH
    have hck : l.check d = if (l.bring d1).2 ≠ 0 then ({ l with err := (l.bring d1).2 }, (l.bring d1).1, (l.bring d1).2) else
        if ((l.bring d1).1.save 0 l.epoch ⟨l.gen + 1, l.next, l.epoch⟩).2 ≠ 0 then
          ({ l with err := ((l.bring d1).1.save 0 l.epoch ⟨l.gen + 1, l.next, l.epoch⟩).2 }, ((l.bring d1).1.save 0 l.epoch ⟨l.gen + 1, l.next, l.epoch⟩).1, ((l.bring d1).1.save 0 l.epoch ⟨l.gen + 1, l.next, l.epoch⟩).2)
        else ({ l with gen := l.gen + 1, tail := l.next, H := fun _ => none }, ((l.bring d1).1.save 0 l.epoch ⟨l.gen + 1, l.next, l.epoch⟩).1, 0) := by
      unfold Lg.check
      rw [hs]
      simp only
      rw [if_neg (by omega), if_neg (by omega)]
    rw [hck] at hok ⊢
    have hks : ∀ k ∈ l.keys d1, ∃ b, l.H k = some b := fun k hk => (mem_keys hk).2
    have hkl := h2.kp
    have hbr := bringGo_live l (l.keys d1) d1 hon
    change ((l.bring d1).2 = 0 ∧ _) ∨ _ at hbr
    rcases hbr with ⟨b1, b2, b3, b4⟩ | ⟨b1, b2, b3, m, b4⟩
    · have b3 : (l.bring d1).1.L = laid (homeQ l (l.keys d1)) d1.L := by
        have : (l.bring d1).1.L = laid (d1.Q ++ homeQ l (l.keys d1)) d1.L := b3
        rw [this, hQ1, List.nil_append]
      have b2 : (l.bring d1).1.off = false := b2
      have b4 : (l.bring d1).1.Q = [] := b4
      rw [if_neg (by omega)] at hok ⊢
      generalize (l.bring d1).1 = d2 at *
      have hl2 : d2.L.length = d1.L.length := by rw [b3, laid_len]
      -- what is seen behind the bringing
      have hg2 : ∀ j, j < d1.L.length → d2.get j = seenQ (homeQ l (l.keys d1)) j (d1.get j) := fun j hj => by
        have e1 : d2.get j = d2.L.getD j [] := by unfold Dsk.get; rw [b4]; rfl
        have e2 : d1.get j = d1.L.getD j [] := by unfold Dsk.get; rw [hQ1]; rfl
        rw [e1, b3, laid_get _ _ _ hj, ← e2]
      have hlow : ∀ j, j < 2 + l.n → d2.get j = d1.get j := fun j hj => by rw [hg2 j (by omega), homeQ_low _ hj]
      have hhome : ∀ k, k < l.homes d1 → d2.get (2 + l.n + k) = (l.H k).getD (d1.get (2 + l.n + k)) := fun k hk => by
        have hk' : 2 + l.n + k < d1.L.length := by unfold Lg.homes at hk; omega
        rw [hg2 _ hk', keys_seen _ hks]
        by_cases hm : k ∈ l.keys d1
        · rw [if_pos hm]
          obtain ⟨b, hb⟩ := hks k hm
          rw [hb]
          rfl
        · rw [if_neg hm]
          cases hHk : l.H k with
          | none => rfl
          | some b => exact absurd ((mem_keys' hk).2 ⟨b, hHk⟩) hm
      have hb2 : Base d2 l F D := hb1.congr hr.next.2.2 hl2 hn2 hlow rfl rfl rfl rfl
      have hk2 : Keep d2 l := hkp.congr hlow (fun j hj => hlow j (by omega)) rfl rfl rfl
      -- homes brought: the same, with or without the records
      have hho : ∀ (d' : Dsk) (H : Nat → Option (List Nat)), d'.L.length = d2.L.length → (∀ k, k < l.homes d1 → d'.get (2 + l.n + k) = d2.get (2 + l.n + k)) → (H = l.H ∨ H = fun _ => none) → homesOf l.n d' H = homesB l d1 := fun d' H hL hgk hHH => by
        rw [homesB_of]
        unfold homesOf
        rw [hL, hl2]
        refine List.map_congr_left fun k hk => ?_
        have hk' : k < l.homes d1 := List.mem_range.1 hk
        rw [hgk k hk', hhome k hk']
        rcases hHH with rfl | rfl
        · cases l.H k <;> rfl
        · rfl
      have hsv := save_live d2 0 l.epoch ⟨l.gen + 1, l.next, l.epoch⟩
      simp only [Nat.zero_add] at hsv
      rw [b4, List.nil_append] at hsv
      generalize d2.save 0 l.epoch ⟨l.gen + 1, l.next, l.epoch⟩ = r at *
      obtain ⟨d3, c⟩ := r
      simp only at hsv
      rcases hsv with ⟨rfl, s2, s3, s4⟩ | ⟨rfl, s2, s3, s4⟩
      · -- all went well
        rw [if_neg (by simp)] at hok ⊢
        simp only at hok ⊢
        have hl3 : d3.L.length = d2.L.length := by rw [s3, laid_len]
        have hg3 : ∀ j, j < d2.L.length → d3.get j = if (l.gen + 1) % 2 = j then sealB (headPc l.epoch ⟨l.gen + 1, l.next, l.epoch⟩) else d2.get j := fun j hj => by
          have e1 : d3.get j = d3.L.getD j [] := by unfold Dsk.get; rw [s4]; rfl
          have e2 : d2.get j = d2.L.getD j [] := by unfold Dsk.get; rw [b4]; rfl
          rw [e1, s3, laid_get _ _ _ hj, ← e2]
          rfl
        have hgl := Nat.mod_lt (l.gen + 1) (show 0 < 2 by decide)
        have hbf : Base d3 { l with gen := l.gen + 1, tail := l.next, H := fun _ => none, err := l.err } l.epoch [] := by
          refine hb1.freed hr.fit hr.dok hnx1 (by omega) (by omega) (by omega) ?_ ?_ _ _
          · rw [hg3 _ (by omega), if_pos rfl]
          · intro j hj hne
            rw [hg3 j (by omega), if_neg (fun e => hne e.symm), hlow j hj]
        have hf1 := hr.fit.disk (d' := d3) (by omega)
        have hr3 : Rg d3 { l with gen := l.gen + 1, tail := l.next, H := fun _ => none } l.epoch [] [] := by
          refine ⟨⟨hf1.n2, hf1.nd, hf1.epoch, by simp only; omega, Nat.le_refl _, Nat.le_add_right _ _, hf1.err, fun k b hk => by cases hk⟩, hok, ?_, s4, trivial, rfl, rfl⟩
          rw [last_of_none s4]
          exact hbf
        have hhm : homesB { l with gen := l.gen + 1, tail := l.next, H := fun _ => none } d3 = homesB l d1 := by
          rw [homesB_of]
          refine hho d3 _ hl3 (fun k hk => ?_) (.inr rfl)
          have : 2 + l.n + k < d1.L.length := by unfold Lg.homes at hk; omega
          rw [hg3 _ (by omega), if_neg (by omega)]
        refine .inl ⟨trivial, ⟨⟨l.epoch, [], [], hr3, hr.fit.epoch, ?_⟩, ?_, s2, he, h.rn, by have := h.ep; simp only; omega, by simp only; omega, by simp only; omega⟩, hhm⟩
        · rw [← hhm, hr3.homes_eq]
          show _ = [_]
          rw [show ({ l with gen := l.gen + 1, tail := l.next, H := fun _ => none } : Lg).n = n from h.rn]
          rfl
        · rw [last_of_none s4]
          have hhok : (headPc l.epoch ⟨l.gen + 1, l.next, l.epoch⟩).ok := headPc_ok hr.fit.epoch (by simp only; omega)
          refine ⟨fun j hj => ?_, fun j hj p hp hpe => ?_, hk2.ep⟩
          · have hj : j < 2 + l.n := hj
            show Sect l.epoch _
            rw [hg3 j (by omega)]
            split
            · exact seal_sect hhok (pack_lt _)
            · exact hk2.sect j hj
          · show p.ct ≤ l.gen + 1
            have hpe : p.ep = l.epoch := hpe
            rw [hg3 j (by omega)] at hp
            split at hp
            · rw [unseal_seal hhok] at hp
              cases hp
              exact Nat.le_refl _
            · have := hk2.hdct j hj p hp hpe
              omega
      · -- the power goes off at the head
        rw [if_pos (by simp)] at hok ⊢
        simp only at hok ⊢
        have hl3 : d3.L.length = d2.L.length := by rw [s3]
        have hlg : ∀ j, d3.last.get j = d2.get j := fun j => by
          have e2 : d2.get j = d2.L.getD j [] := by unfold Dsk.get; rw [b4]; rfl
          rw [last_get, s3, e2]
        have hb3 : Base d3.last l F D := hb2.congr hr.next.2.2 hl3 hn2 (fun j _ => hlg j) rfl rfl rfl rfl
        have hk3 : Keep d3.last l := hk2.congr (fun j _ => hlg j) (fun j _ => hlg j) rfl rfl rfl
        have hf3 := hr.fit.disk (d' := d3) (by omega)
        have hep := h.ep
        have hrn := h.rn
        have ho : Outs n (i + 1) d3 [homesB l d1] := by
          intro keep torn
          subst hrn
          rcases s4 with s4 | s4
          · obtain ⟨c1, c2, c3⟩ := crash_homes (keep := keep) (torn := torn) hb3 hk3 hn2 (fun x hx => by rw [s4] at hx; cases hx)
            refine ⟨l.gen, l.tail, F, D, c1, by omega, by omega, hF, fun j hj => (c2 j hj).mono (by omega), List.mem_singleton.2 ?_⟩
            refine hho _ _ (by rw [crash_L, hl3]) (fun k hk => ?_) (.inl hH.symm)
            rw [crash_get, s4]
            exact hlg _
          · obtain ⟨c1, c2, c3⟩ := crash_head (keep := keep) (torn := torn) hb3 hk3 hf3 hok hnx1 (by omega) (by omega) s4
            rcases c1 with c1 | c1
            · refine ⟨l.gen, l.tail, F, D, c1, by omega, by omega, hF, fun j hj => (c2 j hj).mono (by omega), List.mem_singleton.2 ?_⟩
              refine hho _ _ (by rw [crash_L, hl3]) (fun k hk => ?_) (.inl hH.symm)
              rw [c3 _ (by omega)]
              exact hlg _
            · refine ⟨l.gen + 1, l.next, l.epoch, [], c1, by omega, by show l.next ≤ _; omega, hr.fit.epoch, fun j hj => (c2 j hj).mono (by omega), List.mem_singleton.2 ?_⟩
              refine hho _ _ (by rw [crash_L, hl3]) (fun k hk => ?_) (.inr rfl)
              rw [c3 _ (by omega)]
              exact hlg _
        exact .inr ⟨trivial, KDead.sub ⟨ho, s2, rfl, hrn, ⟨hf3.n2, hf3.nd, hf3.epoch, hf3.gen, hf3.tail, hf3.next, by simp, hf3.H⟩, by simp only; omega, hok⟩ hsub⟩
    · have b3 : (l.bring d1).1.L = d1.L := b3
      have b2 : (l.bring d1).1.off = true := b2
      have b4 : (l.bring d1).1.Q = homeQ l ((l.keys d1).take m) := by
        have : (l.bring d1).1.Q = d1.Q ++ homeQ l ((l.keys d1).take m) := b4
        rw [this, hQ1, List.nil_append]
      have b1 : (l.bring d1).2 = 7 := b1
      rw [if_pos (by rw [b1]; decide)] at hok ⊢
      rw [b1]
      simp only at hok ⊢
      generalize (l.bring d1).1 = d2 at *
      have hf2 := hr.fit.disk (d' := d2) (by rw [b3])
      have ho := kcheck_bring (n := n) (i := i + 1) (d' := d2) hr hkl hQ1 hF h.rn (by have := h.ep; omega) (by omega) (by omega) b3 ⟨m, b4⟩
      exact .inr ⟨trivial, KDead.sub ⟨ho, b2, rfl, h.rn, ⟨hf2.n2, hf2.nd, hf2.epoch, hf2.gen, hf2.tail, hf2.next, by simp, hf2.H⟩, by simp only; omega, hok⟩ hsub⟩
  · have hck : l.check d = ({ l with err := 7 }, d.flush, 7) := by
      unfold Lg.check
      rw [hs]
      simp only
      rw [h1, if_pos (by decide)]
    rw [hck]
    exact .inr ⟨rfl, h2.mono (by omega)⟩
end Go.Proofs.YtmakpbjknklpiaaGreat

/- RedoKept: what it keeps, whole. Plain. -/
namespace Go.Proofs.YtmakpbjknklpiaaGreat
open Go.RowKit Go.Tn Go.Tn.Bt Go.Tn.Lp Go.Tn.Dk
theorem kwrite_Q (d : Dsk) (i : Nat) (b : List Nat) : (d.write i b).Q.length ≤ d.Q.length + 1 := by
  rcases live_write (d := d) i b with ⟨-, -, -, h⟩ | ⟨-, -, -, h⟩
  · rw [h]; omega
  · rw [h, List.length_append, List.length_singleton]; exact Nat.le_refl _
theorem flush_Q (d : Dsk) : d.flush.Q.length ≤ d.Q.length := by
  rcases live_flush (d := d) with ⟨-, -, -, h⟩ | ⟨-, -, -, h⟩
  · rw [h]; exact Nat.le_refl _
  · rw [h]; exact Nat.zero_le _
theorem putPcs_Q (n : Nat) : ∀ (ps : List Pc) (d : Dsk), (putPcs n ps d).1.Q.length ≤ d.Q.length + ps.length
  | [], d => Nat.le_refl _
  | q :: r, d => by
    have h1 := kwrite_Q d (2 + q.ct % n) (sealB q)
    have h2 := putPcs_Q n r (d.write (2 + q.ct % n) (sealB q))
    rw [putPcs, List.length_cons]
    split
    · simp only; omega
    · omega
theorem kbringGo_Q (l : Lg) : ∀ (ks : List Nat) (d : Dsk), (bringGo l ks d).1.Q.length ≤ d.Q.length + ks.length
  | [], d => flush_Q d
  | k :: ks, d => by
    have h1 := kwrite_Q d (2 + l.n + k) ((l.H k).getD [])
    have h2 := kbringGo_Q l ks (d.write (2 + l.n + k) ((l.H k).getD []))
    rw [bringGo, List.length_cons]
    split
    · simp only; omega
    · omega
theorem save_Q (d : Dsk) (a ep : Nat) (x : Hd) : (d.save a ep x).1.Q.length ≤ d.Q.length + 1 := by
  unfold Dsk.save
  split
  · rw [step_Q]; omega
  · have h1 := kwrite_Q d (a + x.gen % 2) (sealB (headPc ep x))
    have h2 := flush_Q (d.write (a + x.gen % 2) (sealB (headPc ep x)))
    simp only
    omega
theorem lwrite_Q {l : Lg} {d : Dsk} {ps : List Pt} : (l.write d ps).2.1.Q.length ≤ d.Q.length + 5000 ∧ (l.write d ps).2.1.L.length = d.L.length := by
  unfold Lg.write
  split
  · exact ⟨by simp only; omega, rfl⟩
  · cases ht : transB ps (l.homes d) with
    | false => exact ⟨by simp, rfl⟩
    | true =>
      rw [if_neg (by simp)]
      have hn := recN ht
      unfold cutB
      split
      · exact ⟨by simp only; omega, rfl⟩
      · rename_i x pcs hc
        have hl : pcs.length ≤ 100 := by
          split at hc
          · cases hc
          · split at hc
            · cases hc
            · cases hc
              rw [cutL_len]
              omega
        have h1 := putPcs_Q l.n pcs d
        have h2 := putPcs_L l.n pcs d
        split
        · exact ⟨by simp only; omega, rfl⟩
        · split
          · exact ⟨by simp only; omega, h2⟩
          · exact ⟨by simp only; omega, h2⟩
theorem lsync_Q {l : Lg} {d : Dsk} : (l.sync d).2.Q.length ≤ d.Q.length ∧ (l.sync d).2.L.length = d.L.length := by
  unfold Lg.sync
  split
  · exact ⟨Nat.le_refl _, rfl⟩
  · exact ⟨flush_Q d, flush_L d⟩
theorem kbringGo_L (l : Lg) : ∀ (ks : List Nat) (d : Dsk), (bringGo l ks d).1.L.length = d.L.length
  | [], d => flush_L d
  | k :: ks, d => by
    rw [bringGo]
    split
    · show (d.write _ _).L.length = _
      rw [write_L]
    · rw [kbringGo_L l ks, write_L]
theorem ksave_L (d : Dsk) (a ep : Nat) (x : Hd) : (d.save a ep x).1.L.length = d.L.length := by
  unfold Dsk.save
  split
  · rw [step_L]
  · show (Dsk.flush _).L.length = _
    rw [flush_L, write_L]
theorem lcheck_Q {l : Lg} {d : Dsk} (hd : d.L.length ≤ 4096) : (l.check d).2.1.Q.length ≤ d.Q.length + 5000 ∧ (l.check d).2.1.L.length = d.L.length := by
  obtain ⟨s1, s2⟩ := lsync_Q (l := l) (d := d)
  unfold Lg.check
  generalize (l.sync d).2 = d1 at *
  generalize (l.sync d).1 = l1 at *
  have hk : (l.keys d1).length ≤ 4096 := by
    unfold Lg.keys Lg.homes
    have h1 := List.length_filter_le (fun k => (l.H k).isSome) (List.range (d1.L.length - 2 - l.n))
    rw [List.length_range] at h1
    omega
  have b1 : (l.bring d1).1.Q.length ≤ d1.Q.length + (l.keys d1).length := kbringGo_Q l _ d1
  have b2 : (l.bring d1).1.L.length = d1.L.length := kbringGo_L l _ d1
  have c1 := save_Q (l.bring d1).1 0 l.epoch ⟨l.gen + 1, l.next, l.epoch⟩
  have c2 := ksave_L (l.bring d1).1 0 l.epoch ⟨l.gen + 1, l.next, l.epoch⟩
  split
  · exact ⟨by simp only; omega, s2⟩
  · split
    · exact ⟨by simp only; omega, s2⟩
    · split
      · exact ⟨by simp only; omega, b2.trans s2⟩
      · split
        · exact ⟨by simp only; omega, by simp only; omega⟩
        · exact ⟨by simp only; omega, by simp only; omega⟩
def KInv (n i : Nat) (l : Lg) (d : Dsk) (S : List (List (List Nat))) : Prop := KLive n i l d S ∨ KDead n i l d S
theorem KInv.ok {n i : Nat} {l : Lg} {d : Dsk} {S : List (List (List Nat))} (h : KInv n i l d S) (hi : i ≤ 1000) : l.ok d := by
  rcases h with h | h
  · obtain ⟨F, D, P, hr, -, -⟩ := h.ex
    exact hr.fit.ok (by have := h.nx; omega)
  · exact h.fit.ok (by have := h.nx; omega)
theorem KInv.rn {n i : Nat} {l : Lg} {d : Dsk} {S : List (List (List Nat))} (h : KInv n i l d S) : l.n = n := by
  rcases h with h | h
  · exact h.rn
  · exact h.rn
theorem KInv.mono {n i j : Nat} {l : Lg} {d : Dsk} {S : List (List (List Nat))} (h : KInv n i l d S) (hij : i ≤ j) : KInv n j l d S := h.imp (·.mono hij) (·.mono hij)
theorem KInv.outs {n i : Nat} {l : Lg} {d : Dsk} {S : List (List (List Nat))} (h : KInv n i l d S) : Outs n i d S := by
  rcases h with h | h
  · exact h.outs
  · exact h.outs
theorem KInv.arm {n i : Nat} {l : Lg} {d : Dsk} {S : List (List (List Nat))} (h : KInv n i l d S) {x : Int} (hx : x < 9223372036854775808) : KInv n i l (d.arm x) S := by
  rcases h with h | h
  · by_cases h0 : x < 0 ∨ d.off = true
    · rw [show d.arm x = d by unfold Dsk.arm; rw [if_pos h0]]
      exact .inl h
    · obtain ⟨F, D, P, hr, hF, hS⟩ := h.ex
      have hok := hr.dok.arm hx
      have e : d.arm x = { d with fuse := x.toNat, fused := true } := by unfold Dsk.arm; rw [if_neg h0]
      rw [e] at hok ⊢
      have hlg : ∀ j, ({ d with fuse := x.toNat, fused := true } : Dsk).last.get j = d.last.get j := fun j => rfl
      refine .inl ⟨⟨F, D, P, ⟨hr.fit.disk rfl, hok, hr.base.congr hr.next.2.2 rfl hr.fit.n2 (fun j _ => hlg j) rfl rfl rfl rfl, hr.q, hr.gs, hr.nx, hr.H⟩, hF, hS⟩, h.kp.congr (fun j _ => hlg j) (fun j _ => hlg j) rfl rfl rfl, h.on, h.err, h.rn, h.ep, h.nx, h.gen⟩
  · rw [show d.arm x = d by unfold Dsk.arm; rw [if_pos (.inr h.off)]]
    exact .inr h
theorem arm_L (d : Dsk) (x : Int) : (d.arm x).L = d.L ∧ (d.arm x).Q = d.Q := by
  unfold Dsk.arm
  split <;> exact ⟨rfl, rfl⟩
end Go.Proofs.YtmakpbjknklpiaaGreat

/- The document's disk in memory. -/
namespace Go.Proofs.YtmakpbjknklpiaaGreat
open Go.RowKit Go.Tn Go.Tn.Bt Go.Tn.Lp Go.Tn.Dk
theorem mod0 {w w' : World} (h : Below w.heap.size w w') : Mod (fun _ => False) w w' := ⟨h.os, h.tape, h.output, h.size, fun x hx _ => h.block x hx⟩
/-- Bytes that nobody turns: no block of theirs is among S. -/
structure Dat (w : World) (S : Nat → Prop) (s : Sv) (b : List Nat) : Prop where
  rd : LSl en8 1 w (sv s) b
  out : ∀ r, (sv s).ownBlock = some r → ¬ S r ∧ r < w.heap.size
theorem Dat.turn {w w' : World} {S S' G : Nat → Prop} {s : Sv} {b : List Nat} (h : Dat w S s b) (hm : Mod G w w') (hG : ∀ b, G b → S b) (hS : ∀ b, S' b → S b ∨ w.heap.size ≤ b) : Dat w' S' s b :=
  ⟨h.rd.mod hm fun r hr e => (h.out r hr).1 (hG r e), fun r hr => ⟨fun e => by
    rcases hS r e with h1 | h1
    · exact (h.out r hr).1 h1
    · have := (h.out r hr).2
      omega, Nat.lt_of_lt_of_le (h.out r hr).2 hm.size⟩⟩
theorem Dat.below {w w' : World} {S S' : Nat → Prop} {s : Sv} {b : List Nat} (h : Dat w S s b) (hb : Below w.heap.size w w') (hS : ∀ b, S' b → S b ∨ w.heap.size ≤ b) : Dat w' S' s b := h.turn (mod0 hb) (fun _ h => h.elim) hS
theorem Dat.keep {w w' : World} {S : Nat → Prop} {s : Sv} {b : List Nat} (h : Dat w S s b) (hb : Below w.heap.size w w') : Dat w' S s b := h.below hb fun _ h => .inl h
/-- The fuse as the document keeps it. -/
def fuseI (d : Dsk) : Int := if d.fused = true then (d.fuse : Int) else -1
def enW (x : (Nat × List Nat) × Sv) : List Value := [.int .i64 (x.1.1 : Nat), sv x.2]
theorem elW : ElT Tryz.prog 68 119 2 enW := ⟨Tryz.underlying68, by kernel_rfl, by omega, fun _ => rfl, fun x u hu => by
  simp only [enW, List.mem_cons, List.not_mem_nil, or_false] at hu
  rcases hu with rfl | rfl <;> rfl⟩
structure RDk (w : World) (S F : Nat → Prop) (p : Nat) (d : Dsk) : Prop where
  ok : d.ok
  ex : ∃ (lv qv : Value) (xs : List (List Nat × Sv)) (qs : List ((Nat × List Nat) × Sv)), w.heap[p]? = some (.cells #[lv, qv, .int .i64 (fuseI d), .bool d.off] 70 (0, 0)) ∧
    xs.map (·.1) = d.L ∧ LOut enB 1 53 0 w lv xs ∧ (∀ x ∈ xs, Dat w S x.2 x.1) ∧
    qs.map (·.1) = d.Q ∧ LOut enW 2 119 0 w qv qs ∧ (∀ x ∈ qs, Dat w S x.2 x.1.2) ∧
    (∀ k, lv.ownBlock = some k → k ≠ p ∧ F k ∧ qv.ownBlock ≠ some k) ∧ ∀ k, qv.ownBlock = some k → k ≠ p ∧ F k
  fp : F p
  fs : ∀ b, F b → S b
  lt : ∀ b, S b → b < w.heap.size
  fuse : d.off = true → d.fused = true ∧ d.fuse = 0
theorem RDk.turn {w w' : World} {S S' F G : Nat → Prop} {p : Nat} {d : Dsk} (h : RDk w S F p d) (hm : Mod G w w') (hG : ∀ b, G b → S b) (hF : ∀ b, F b → ¬ G b) (hS : ∀ b, S' b → S b ∨ w.heap.size ≤ b) (hFS : ∀ b, F b → S' b) (hlt : ∀ b, S' b → b < w'.heap.size) : RDk w' S' F p d := by
  obtain ⟨lv, qv, xs, qs, h1, h2, h3, h4, h5, h6, h7, h8, h9⟩ := h.ex
  have kb : ∀ b, F b → w'.heap[b]? = w.heap[b]? := fun b hb => hm.block b (h.lt b (h.fs b hb)) (hF b hb)
  exact ⟨h.ok, ⟨lv, qv, xs, qs, (kb p h.fp).trans h1, h2, h3.kept hm.size fun r hr => kb r (h8 r hr).2.1, fun x hx => (h4 x hx).turn hm hG hS, h5, h6.kept hm.size fun r hr => kb r (h9 r hr).2, fun x hx => (h7 x hx).turn hm hG hS, h8, h9⟩, h.fp, hFS, hlt, h.fuse⟩
theorem RDk.below {w w' : World} {S F : Nat → Prop} {p : Nat} {d : Dsk} (h : RDk w S F p d) (hb : Below w.heap.size w w') : RDk w' S F p d :=
  h.turn (mod0 hb) (fun _ h => h.elim) (fun _ _ h => h) (fun _ h => .inl h) h.fs fun b hb' => Nat.lt_of_lt_of_le (h.lt b hb') hb.size
/-- More that no data may lie in. -/
theorem RDk.sub {w : World} {S S' F : Nat → Prop} {p : Nat} {d : Dsk} (h : RDk w S F p d) (hS : ∀ b, S' b → S b) (hFS : ∀ b, F b → S' b) : RDk w S' F p d :=
  h.turn (G := fun _ => False) (Mod.refl _ _) (fun _ h => h.elim) (fun _ _ h => h) (fun b hb => .inl (hS b hb)) hFS fun b hb => h.lt b (hS b hb)
/-- What a call that turns the disk leaves: the blocks S that data keep out of, the disk's own F. -/
structure RTo (w w' : World) (S F S' F' : Nat → Prop) : Prop where
  mod : Mod F w w'
  sub : ∀ b, S b → S' b
  new : ∀ b, S' b → S b ∨ w.heap.size ≤ b
  own : ∀ b, F' b → F b ∨ w.heap.size ≤ b
theorem RTo.refl (w : World) (S F : Nat → Prop) : RTo w w S F S F := ⟨Mod.refl _ _, fun _ h => h, fun _ h => .inl h, fun _ h => .inl h⟩
theorem RTo.of_mod {w w' : World} (S : Nat → Prop) {F : Nat → Prop} (h : Mod F w w') : RTo w w' S F S F := ⟨h, fun _ h => h, fun _ h => .inl h, fun _ h => .inl h⟩
theorem RTo.trans {w w1 w2 : World} {S F S1 F1 S2 F2 : Nat → Prop} (h : RTo w w1 S F S1 F1) (k : RTo w1 w2 S1 F1 S2 F2) : RTo w w2 S F S2 F2 :=
  ⟨h.mod.trans k.mod (fun _ h => h) fun x hx h1 => (h.own x h1).elim id fun h2 => absurd hx (Nat.not_lt.2 h2), fun b hb => k.sub b (h.sub b hb), fun b hb => (k.new b hb).elim (h.new b) fun h1 => .inr (Nat.le_trans h.mod.size h1), fun b hb => (k.own b hb).elim (h.own b) fun h1 => .inr (Nat.le_trans h.mod.size h1)⟩
theorem RTo.before {w w1 w2 : World} {S F S' F' : Nat → Prop} (hb : Below w.heap.size w w1) (k : RTo w1 w2 S F S' F') : RTo w w2 S F S' F' :=
  (RTo.of_mod S ((mod0 hb).mono fun _ _ h => h.elim)).trans k
theorem RTo.behind {w w1 w2 : World} {S F S' F' : Nat → Prop} (k : RTo w w1 S F S' F') (hb : Below w1.heap.size w1 w2) : RTo w w2 S F S' F' :=
  k.trans (RTo.of_mod S' ((mod0 hb).mono fun _ _ h => h.elim))
theorem Dat.to {w w' : World} {S F S' F' : Nat → Prop} {s : Sv} {b : List Nat} (h : Dat w S s b) (k : RTo w w' S F S' F') (hF : ∀ b, F b → S b) : Dat w' S' s b := h.turn k.mod hF k.new
/-- The disk with the same lists, its fuse turned. -/
theorem RDk.refuse {w w' : World} {S F : Nat → Prop} {p : Nat} {d : Dsk} (h : RDk w S F p d) (f : Nat) (fd o : Bool) (hm : Mod (fun b => b = p) w w') (hok : (⟨d.L, d.Q, f, fd, o⟩ : Dsk).ok) (hfu : o = true → fd = true ∧ f = 0)
    (hh : ∀ lv qv, w.heap[p]? = some (.cells #[lv, qv, .int .i64 (fuseI d), .bool d.off] 70 (0, 0)) → w'.heap[p]? = some (.cells #[lv, qv, .int .i64 (fuseI ⟨d.L, d.Q, f, fd, o⟩), .bool o] 70 (0, 0))) : RDk w' S F p ⟨d.L, d.Q, f, fd, o⟩ := by
  obtain ⟨lv, qv, xs, qs, h1, h2, h3, h4, h5, h6, h7, h8, h9⟩ := h.ex
  have hG : ∀ b, b = p → S b := fun b hb => hb ▸ h.fs p h.fp
  have kb : ∀ b, F b → b ≠ p → w'.heap[b]? = w.heap[b]? := fun b hb hn => hm.block b (h.lt b (h.fs b hb)) hn
  exact ⟨hok, ⟨lv, qv, xs, qs, hh lv qv h1, h2, h3.kept hm.size fun r hr => kb r (h8 r hr).2.1 (h8 r hr).1, fun x hx => (h4 x hx).turn hm hG fun _ h => .inl h, h5, h6.kept hm.size fun r hr => kb r (h9 r hr).2 (h9 r hr).1, fun x hx => (h7 x hx).turn hm hG fun _ h => .inl h, h8, h9⟩, h.fp, h.fs, fun b hb => Nat.lt_of_lt_of_le (h.lt b hb) hm.size, hfu⟩
end Go.Proofs.YtmakpbjknklpiaaGreat
