/- An inode is to be another one. -/
import Derived.Test.YtipbaajdnnddgaaGreatMgVlj29
import Derived.Test.YtipbaajdnnddgaaGreatMgVlj28
/- A disk with a fuse: Checkpoint. Plain. -/
namespace Go.Proofs.YtipbaajdnnddgaaGreat
open Go.RowKit Go.Tn Go.Tn.Bt Go.Tn.Lp Go.Tn.Dk
theorem KDead.sub {n i : Nat} {l : Lg} {d : Dsk} {S T : List (List (List Nat))} (h : KDead n i l d S) (hs : ∀ x ∈ S, x ∈ T) : KDead n i l d T :=
  ⟨fun keep torn => by
    obtain ⟨gen, tail, F, D, h1, h2, h3, h4, h5, h6⟩ := h.outs keep torn
    exact ⟨gen, tail, F, D, h1, h2, h3, h4, h5, hs _ h6⟩, h.off, h.err, h.rn, h.fit, h.nx, h.dok⟩
/-- Homes are brought, or a head is saved, where nothing waits. -/
theorem kcheck_bring {n i : Nat} {l : Lg} {d : Dsk} {F : Nat} {D : List Rc} (hr : Rg d l F D []) (hkp : Keep d.last l) (hQ : d.Q = []) (hF : F ≤ 16777215) (hrn : l.n = n) (hep : l.epoch ≤ 256 * i + 1) (hnx : l.next ≤ 100 * i) (hgen : l.gen ≤ i) {d' : Dsk}
    (hL : d'.L = d.L) (hQ' : ∃ m, d'.Q = homeQ l ((l.keys d).take m)) : Outs n i d' [homesB l d] := by
  intro keep torn
  have hn2 := hr.fit.n2
  have hLl : d'.last.L.length = d.last.L.length := by show d'.L.length = d.L.length; rw [hL]
  have hlg : ∀ j, d'.last.get j = d.last.get j := fun j => by rw [last_get, last_get, hL]
  have hb : Base d'.last l F D := hr.base.congr hr.next.2.2 hLl hn2 (fun j _ => hlg j) rfl rfl rfl rfl
  have hk : Keep d'.last l := hkp.congr (fun j _ => hlg j) (fun j _ => hlg j) rfl rfl rfl
  obtain ⟨m, hm⟩ := hQ'
  obtain ⟨h1, h2, h3⟩ := crash_homes (keep := keep) (torn := torn) hb hk hn2 (fun x hx => by
    rw [hm] at hx
    obtain ⟨k, hk, rfl⟩ := List.mem_map.1 hx
    obtain ⟨-, b, hb⟩ := mem_keys (List.mem_of_mem_take hk)
    exact ⟨k, b, rfl, hb⟩)
  have hnx' := hr.nx
  rw [List.append_nil] at hnx'
  have hH := hr.H
  rw [List.append_nil] at hH
  subst hrn
  refine ⟨l.gen, l.tail, F, D, h1, hgen, by omega, hF, fun j hj => (h2 j hj).mono (by omega), List.mem_singleton.2 ?_⟩
  rw [homesB_of, hH]
  refine homesOf_same (by rw [crash_L, hL]) fun k _ hk0 => ?_
  rw [h3 k (by rw [hH]; exact hk0), hlg]
  rw [last_of_none hQ]
theorem klive_check {n i : Nat} {l : Lg} {d : Dsk} {S : List (List (List Nat))} (h : KLive n i l d S) (hi : i ≤ 1000) (hok : (l.check d).2.1.ok) :
    ((l.check d).2.2 = 0 ∧ KLive n (i + 1) (l.check d).1 (l.check d).2.1 [homesB l d] ∧ homesB (l.check d).1 (l.check d).2.1 = homesB l d) ∨ ((l.check d).2.2 = 7 ∧ KDead n (i + 1) (l.check d).1 (l.check d).2.1 S) := by
  have hdok : d.ok := by obtain ⟨F, D, P, hr, -, -⟩ := h.ex; exact hr.dok
  obtain ⟨S0, hS0⟩ := h.last
  have hsub : ∀ x ∈ [homesB l d], x ∈ S := fun x hx => by rw [hS0]; exact List.mem_append.2 (.inr hx)
  have hs : l.sync d = ({ l with err := d.dead }, d.flush) := by
    unfold Lg.sync
    rw [if_neg (by have := h.err; omega)]
  have he := h.err
  have hg := h.gen
  have hnx := h.nx
  rcases klive_flush h hdok.flush with ⟨h1, h2, h3, hQ1⟩ | ⟨h1, h2⟩
  · obtain ⟨F, D, P, hr, hF, hS⟩ := h2.ex
    have hP : P = [] := by
      have hl := congrArg List.length hS
      unfold steps at hl
      simp at hl
      exact hl
    subst hP
    have hse : ({ l with err := d.dead } : Lg) = l := by
      rw [h1]
      obtain ⟨ln, le, lg, lt, lx, lH, lr⟩ := l
      simp only at he
      subst he
      rfl
    rw [hse] at hs
    have hkp := h2.kp
    have hon := h2.on
    have hfl := flush_L d
    rw [← h3] at hsub ⊢
    rw [last_of_none hQ1] at hkp
    generalize d.flush = d1 at *
    have hn2 := hr.fit.n2
    have hnd := hr.fit.nd
    have hb1 := hr.base
    rw [last_of_none hQ1] at hb1
    have hnx1 : l.next = endCt l.tail D := by have := hr.nx; rwa [List.append_nil] at this
    have hH := hr.H
    rw [List.append_nil] at hH
    have hck : l.check d = if (l.bring d1).2 ≠ 0 then ({ l with err := (l.bring d1).2 }, (l.bring d1).1, (l.bring d1).2) else
        if ((l.bring d1).1.save 0 l.epoch ⟨l.gen + 1, l.next, l.epoch⟩).2 ≠ 0 then
          ({ l with err := ((l.bring d1).1.save 0 l.epoch ⟨l.gen + 1, l.next, l.epoch⟩).2 }, ((l.bring d1).1.save 0 l.epoch ⟨l.gen + 1, l.next, l.epoch⟩).1, ((l.bring d1).1.save 0 l.epoch ⟨l.gen + 1, l.next, l.epoch⟩).2)
        else ({ l with gen := l.gen + 1, tail := l.next, H := fun _ => none }, ((l.bring d1).1.save 0 l.epoch ⟨l.gen + 1, l.next, l.epoch⟩).1, 0) := by
      unfold Lg.check
      rw [hs]
      simp only
      rw [if_neg (by omega), if_neg (by omega)]
    rw [hck] at hok ⊢
    have hks : ∀ k ∈ l.keys d1, ∃ b, l.H k = some b := fun k hk => (mem_keys hk).2
    have hkl := h2.kp
    have hbr := bringGo_live l (l.keys d1) d1 hon
    change ((l.bring d1).2 = 0 ∧ _) ∨ _ at hbr
    rcases hbr with ⟨b1, b2, b3, b4⟩ | ⟨b1, b2, b3, m, b4⟩
    · have b3 : (l.bring d1).1.L = laid (homeQ l (l.keys d1)) d1.L := by
        have : (l.bring d1).1.L = laid (d1.Q ++ homeQ l (l.keys d1)) d1.L := b3
        rw [this, hQ1, List.nil_append]
      have b2 : (l.bring d1).1.off = false := b2
      have b4 : (l.bring d1).1.Q = [] := b4
      rw [if_neg (by omega)] at hok ⊢
      generalize (l.bring d1).1 = d2 at *
      have hl2 : d2.L.length = d1.L.length := by rw [b3, laid_len]
      -- what is seen behind the bringing
      have hg2 : ∀ j, j < d1.L.length → d2.get j = seenQ (homeQ l (l.keys d1)) j (d1.get j) := fun j hj => by
        have e1 : d2.get j = d2.L.getD j [] := by unfold Dsk.get; rw [b4]; rfl
        have e2 : d1.get j = d1.L.getD j [] := by unfold Dsk.get; rw [hQ1]; rfl
        rw [e1, b3, laid_get _ _ _ hj, ← e2]
      have hlow : ∀ j, j < 2 + l.n → d2.get j = d1.get j := fun j hj => by rw [hg2 j (by omega), homeQ_low _ hj]
      have hhome : ∀ k, k < l.homes d1 → d2.get (2 + l.n + k) = (l.H k).getD (d1.get (2 + l.n + k)) := fun k hk => by
        have hk' : 2 + l.n + k < d1.L.length := by unfold Lg.homes at hk; omega
        rw [hg2 _ hk', keys_seen _ hks]
        by_cases hm : k ∈ l.keys d1
        · rw [if_pos hm]
          obtain ⟨b, hb⟩ := hks k hm
          rw [hb]
          rfl
        · rw [if_neg hm]
          cases hHk : l.H k with
          | none => rfl
          | some b => exact absurd ((mem_keys' hk).2 ⟨b, hHk⟩) hm
      have hb2 : Base d2 l F D := hb1.congr hr.next.2.2 hl2 hn2 hlow rfl rfl rfl rfl
      have hk2 : Keep d2 l := hkp.congr hlow (fun j hj => hlow j (by omega)) rfl rfl rfl
      -- homes brought: the same, with or without the records
      have hho : ∀ (d' : Dsk) (H : Nat → Option (List Nat)), d'.L.length = d2.L.length → (∀ k, k < l.homes d1 → d'.get (2 + l.n + k) = d2.get (2 + l.n + k)) → (H = l.H ∨ H = fun _ => none) → homesOf l.n d' H = homesB l d1 := fun d' H hL hgk hHH => by
        rw [homesB_of]
        unfold homesOf
        rw [hL, hl2]
        refine List.map_congr_left fun k hk => ?_
        have hk' : k < l.homes d1 := List.mem_range.1 hk
        rw [hgk k hk', hhome k hk']
        rcases hHH with rfl | rfl
        · cases l.H k <;> rfl
        · rfl
      have hsv := save_live d2 0 l.epoch ⟨l.gen + 1, l.next, l.epoch⟩
      simp only [Nat.zero_add] at hsv
      rw [b4, List.nil_append] at hsv
      generalize d2.save 0 l.epoch ⟨l.gen + 1, l.next, l.epoch⟩ = r at *
      obtain ⟨d3, c⟩ := r
      simp only at hsv
      rcases hsv with ⟨rfl, s2, s3, s4⟩ | ⟨rfl, s2, s3, s4⟩
      · -- all went well
        rw [if_neg (by simp)] at hok ⊢
        simp only at hok ⊢
        have hl3 : d3.L.length = d2.L.length := by rw [s3, laid_len]
        have hg3 : ∀ j, j < d2.L.length → d3.get j = if (l.gen + 1) % 2 = j then sealB (headPc l.epoch ⟨l.gen + 1, l.next, l.epoch⟩) else d2.get j := fun j hj => by
          have e1 : d3.get j = d3.L.getD j [] := by unfold Dsk.get; rw [s4]; rfl
          have e2 : d2.get j = d2.L.getD j [] := by unfold Dsk.get; rw [b4]; rfl
          rw [e1, s3, laid_get _ _ _ hj, ← e2]
          rfl
        have hgl := Nat.mod_lt (l.gen + 1) (show 0 < 2 by decide)
        have hbf : Base d3 { l with gen := l.gen + 1, tail := l.next, H := fun _ => none, err := l.err } l.epoch [] := by
          refine hb1.freed hr.fit hr.dok hnx1 (by omega) (by omega) (by omega) ?_ ?_ _ _
          · rw [hg3 _ (by omega), if_pos rfl]
          · intro j hj hne
            rw [hg3 j (by omega), if_neg (fun e => hne e.symm), hlow j hj]
        have hf1 := hr.fit.disk (d' := d3) (by omega)
        have hr3 : Rg d3 { l with gen := l.gen + 1, tail := l.next, H := fun _ => none } l.epoch [] [] := by
          refine ⟨⟨hf1.n2, hf1.nd, hf1.epoch, by simp only; omega, Nat.le_refl _, Nat.le_add_right _ _, hf1.err, fun k b hk => by cases hk⟩, hok, ?_, s4, trivial, rfl, rfl⟩
          rw [last_of_none s4]
          exact hbf
        have hhm : homesB { l with gen := l.gen + 1, tail := l.next, H := fun _ => none } d3 = homesB l d1 := by
          rw [homesB_of]
          refine hho d3 _ hl3 (fun k hk => ?_) (.inr rfl)
          have : 2 + l.n + k < d1.L.length := by unfold Lg.homes at hk; omega
          rw [hg3 _ (by omega), if_neg (by omega)]
        refine .inl ⟨trivial, ⟨⟨l.epoch, [], [], hr3, hr.fit.epoch, ?_⟩, ?_, s2, he, h.rn, by have := h.ep; simp only; omega, by simp only; omega, by simp only; omega⟩, hhm⟩
        · rw [← hhm, hr3.homes_eq]
          show _ = [_]
          rw [show ({ l with gen := l.gen + 1, tail := l.next, H := fun _ => none } : Lg).n = n from h.rn]
          rfl
        · rw [last_of_none s4]
          have hhok : (headPc l.epoch ⟨l.gen + 1, l.next, l.epoch⟩).ok := headPc_ok hr.fit.epoch (by simp only; omega)
          refine ⟨fun j hj => ?_, fun j hj p hp hpe => ?_, hk2.ep⟩
          · have hj : j < 2 + l.n := hj
            show Sect l.epoch _
            rw [hg3 j (by omega)]
            split
            · exact seal_sect hhok (pack_lt _)
            · exact hk2.sect j hj
          · show p.ct ≤ l.gen + 1
            have hpe : p.ep = l.epoch := hpe
            rw [hg3 j (by omega)] at hp
            split at hp
            · rw [unseal_seal hhok] at hp
              cases hp
              exact Nat.le_refl _
            · have := hk2.hdct j hj p hp hpe
              omega
      · -- the power goes off at the head
        rw [if_pos (by simp)] at hok ⊢
        simp only at hok ⊢
        have hl3 : d3.L.length = d2.L.length := by rw [s3]
        have hlg : ∀ j, d3.last.get j = d2.get j := fun j => by
          have e2 : d2.get j = d2.L.getD j [] := by unfold Dsk.get; rw [b4]; rfl
          rw [last_get, s3, e2]
        have hb3 : Base d3.last l F D := hb2.congr hr.next.2.2 hl3 hn2 (fun j _ => hlg j) rfl rfl rfl rfl
        have hk3 : Keep d3.last l := hk2.congr (fun j _ => hlg j) (fun j _ => hlg j) rfl rfl rfl
        have hf3 := hr.fit.disk (d' := d3) (by omega)
        have hep := h.ep
        have hrn := h.rn
        have ho : Outs n (i + 1) d3 [homesB l d1] := by
          intro keep torn
          subst hrn
          rcases s4 with s4 | s4
          · obtain ⟨c1, c2, c3⟩ := crash_homes (keep := keep) (torn := torn) hb3 hk3 hn2 (fun x hx => by rw [s4] at hx; cases hx)
            refine ⟨l.gen, l.tail, F, D, c1, by omega, by omega, hF, fun j hj => (c2 j hj).mono (by omega), List.mem_singleton.2 ?_⟩
            refine hho _ _ (by rw [crash_L, hl3]) (fun k hk => ?_) (.inl hH.symm)
            rw [crash_get, s4]
            exact hlg _
          · obtain ⟨c1, c2, c3⟩ := crash_head (keep := keep) (torn := torn) hb3 hk3 hf3 hok hnx1 (by omega) (by omega) s4
            rcases c1 with c1 | c1
            · refine ⟨l.gen, l.tail, F, D, c1, by omega, by omega, hF, fun j hj => (c2 j hj).mono (by omega), List.mem_singleton.2 ?_⟩
              refine hho _ _ (by rw [crash_L, hl3]) (fun k hk => ?_) (.inl hH.symm)
              rw [c3 _ (by omega)]
              exact hlg _
            · refine ⟨l.gen + 1, l.next, l.epoch, [], c1, by omega, by show l.next ≤ _; omega, hr.fit.epoch, fun j hj => (c2 j hj).mono (by omega), List.mem_singleton.2 ?_⟩
              refine hho _ _ (by rw [crash_L, hl3]) (fun k hk => ?_) (.inr rfl)
              rw [c3 _ (by omega)]
              exact hlg _
        exact .inr ⟨trivial, KDead.sub ⟨ho, s2, rfl, hrn, ⟨hf3.n2, hf3.nd, hf3.epoch, hf3.gen, hf3.tail, hf3.next, by simp, hf3.H⟩, by simp only; omega, hok⟩ hsub⟩
    · have b3 : (l.bring d1).1.L = d1.L := b3
      have b2 : (l.bring d1).1.off = true := b2
      have b4 : (l.bring d1).1.Q = homeQ l ((l.keys d1).take m) := by
        have : (l.bring d1).1.Q = d1.Q ++ homeQ l ((l.keys d1).take m) := b4
        rw [this, hQ1, List.nil_append]
      have b1 : (l.bring d1).2 = 7 := b1
      rw [if_pos (by rw [b1]; decide)] at hok ⊢
      rw [b1]
      simp only at hok ⊢
      generalize (l.bring d1).1 = d2 at *
      have hf2 := hr.fit.disk (d' := d2) (by rw [b3])
      have ho := kcheck_bring (n := n) (i := i + 1) (d' := d2) hr hkl hQ1 hF h.rn (by have := h.ep; omega) (by omega) (by omega) b3 ⟨m, b4⟩
      exact .inr ⟨trivial, KDead.sub ⟨ho, b2, rfl, h.rn, ⟨hf2.n2, hf2.nd, hf2.epoch, hf2.gen, hf2.tail, hf2.next, by simp, hf2.H⟩, by simp only; omega, hok⟩ hsub⟩
  · have hck : l.check d = ({ l with err := 7 }, d.flush, 7) := by
      unfold Lg.check
      rw [hs]
      simp only
      rw [h1, if_pos (by decide)]
    rw [hck]
    exact .inr ⟨rfl, h2.mono (by omega)⟩
end Go.Proofs.YtipbaajdnnddgaaGreat

/- RedoKept: what it keeps, whole. Plain. -/
namespace Go.Proofs.YtipbaajdnnddgaaGreat
open Go.RowKit Go.Tn Go.Tn.Bt Go.Tn.Lp Go.Tn.Dk
theorem kwrite_Q (d : Dsk) (i : Nat) (b : List Nat) : (d.write i b).Q.length ≤ d.Q.length + 1 := by
  rcases live_write (d := d) i b with ⟨-, -, -, h⟩ | ⟨-, -, -, h⟩
  · rw [h]; omega
  · rw [h, List.length_append, List.length_singleton]; exact Nat.le_refl _
theorem flush_Q (d : Dsk) : d.flush.Q.length ≤ d.Q.length := by
  rcases live_flush (d := d) with ⟨-, -, -, h⟩ | ⟨-, -, -, h⟩
  · rw [h]; exact Nat.le_refl _
  · rw [h]; exact Nat.zero_le _
theorem putPcs_Q (n : Nat) : ∀ (ps : List Pc) (d : Dsk), (putPcs n ps d).1.Q.length ≤ d.Q.length + ps.length
  | [], d => Nat.le_refl _
  | q :: r, d => by
    have h1 := kwrite_Q d (2 + q.ct % n) (sealB q)
    have h2 := putPcs_Q n r (d.write (2 + q.ct % n) (sealB q))
    rw [putPcs, List.length_cons]
    split
    · simp only; omega
    · omega
theorem kbringGo_Q (l : Lg) : ∀ (ks : List Nat) (d : Dsk), (bringGo l ks d).1.Q.length ≤ d.Q.length + ks.length
  | [], d => flush_Q d
  | k :: ks, d => by
    have h1 := kwrite_Q d (2 + l.n + k) ((l.H k).getD [])
    have h2 := kbringGo_Q l ks (d.write (2 + l.n + k) ((l.H k).getD []))
    rw [bringGo, List.length_cons]
    split
    · simp only; omega
    · omega
theorem save_Q (d : Dsk) (a ep : Nat) (x : Hd) : (d.save a ep x).1.Q.length ≤ d.Q.length + 1 := by
  unfold Dsk.save
  split
  · rw [step_Q]; omega
  · have h1 := kwrite_Q d (a + x.gen % 2) (sealB (headPc ep x))
    have h2 := flush_Q (d.write (a + x.gen % 2) (sealB (headPc ep x)))
    simp only
    omega
theorem lwrite_Q {l : Lg} {d : Dsk} {ps : List Pt} : (l.write d ps).2.1.Q.length ≤ d.Q.length + 5000 ∧ (l.write d ps).2.1.L.length = d.L.length := by
  unfold Lg.write
  split
  · exact ⟨by simp only; omega, rfl⟩
  · cases ht : transB ps (l.homes d) with
    | false => exact ⟨by simp, rfl⟩
    | true =>
      rw [if_neg (by simp)]
      have hn := recN ht
      unfold cutB
      split
      · exact ⟨by simp only; omega, rfl⟩
      · rename_i x pcs hc
        have hl : pcs.length ≤ 100 := by
          split at hc
          · cases hc
          · split at hc
            · cases hc
            · cases hc
              rw [cutL_len]
              omega
        have h1 := putPcs_Q l.n pcs d
        have h2 := putPcs_L l.n pcs d
        split
        · exact ⟨by simp only; omega, rfl⟩
        · split
          · exact ⟨by simp only; omega, h2⟩
          · exact ⟨by simp only; omega, h2⟩
theorem lsync_Q {l : Lg} {d : Dsk} : (l.sync d).2.Q.length ≤ d.Q.length ∧ (l.sync d).2.L.length = d.L.length := by
  unfold Lg.sync
  split
  · exact ⟨Nat.le_refl _, rfl⟩
  · exact ⟨flush_Q d, flush_L d⟩
theorem kbringGo_L (l : Lg) : ∀ (ks : List Nat) (d : Dsk), (bringGo l ks d).1.L.length = d.L.length
  | [], d => flush_L d
  | k :: ks, d => by
    rw [bringGo]
    split
    · show (d.write _ _).L.length = _
      rw [write_L]
    · rw [kbringGo_L l ks, write_L]
theorem ksave_L (d : Dsk) (a ep : Nat) (x : Hd) : (d.save a ep x).1.L.length = d.L.length := by
  unfold Dsk.save
  split
  · rw [step_L]
  · show (Dsk.flush _).L.length = _
    rw [flush_L, write_L]
theorem lcheck_Q {l : Lg} {d : Dsk} (hd : d.L.length ≤ 4096) : (l.check d).2.1.Q.length ≤ d.Q.length + 5000 ∧ (l.check d).2.1.L.length = d.L.length := by
  obtain ⟨s1, s2⟩ := lsync_Q (l := l) (d := d)
  unfold Lg.check
  generalize (l.sync d).2 = d1 at *
  generalize (l.sync d).1 = l1 at *
  have hk : (l.keys d1).length ≤ 4096 := by
    unfold Lg.keys Lg.homes
    have h1 := List.length_filter_le (fun k => (l.H k).isSome) (List.range (d1.L.length - 2 - l.n))
    rw [List.length_range] at h1
    omega
  have b1 : (l.bring d1).1.Q.length ≤ d1.Q.length + (l.keys d1).length := kbringGo_Q l _ d1
  have b2 : (l.bring d1).1.L.length = d1.L.length := kbringGo_L l _ d1
  have c1 := save_Q (l.bring d1).1 0 l.epoch ⟨l.gen + 1, l.next, l.epoch⟩
  have c2 := ksave_L (l.bring d1).1 0 l.epoch ⟨l.gen + 1, l.next, l.epoch⟩
  split
  · exact ⟨by simp only; omega, s2⟩
  · split
    · exact ⟨by simp only; omega, s2⟩
    · split
      · exact ⟨by simp only; omega, b2.trans s2⟩
      · split
        · exact ⟨by simp only; omega, by simp only; omega⟩
        · exact ⟨by simp only; omega, by simp only; omega⟩
def KInv (n i : Nat) (l : Lg) (d : Dsk) (S : List (List (List Nat))) : Prop := KLive n i l d S ∨ KDead n i l d S
theorem KInv.ok {n i : Nat} {l : Lg} {d : Dsk} {S : List (List (List Nat))} (h : KInv n i l d S) (hi : i ≤ 1000) : l.ok d := by
  rcases h with h | h
  · obtain ⟨F, D, P, hr, -, -⟩ := h.ex
    exact hr.fit.ok (by have := h.nx; omega)
  · exact h.fit.ok (by have := h.nx; omega)
theorem KInv.rn {n i : Nat} {l : Lg} {d : Dsk} {S : List (List (List Nat))} (h : KInv n i l d S) : l.n = n := by
  rcases h with h | h
  · exact h.rn
  · exact h.rn
theorem KInv.mono {n i j : Nat} {l : Lg} {d : Dsk} {S : List (List (List Nat))} (h : KInv n i l d S) (hij : i ≤ j) : KInv n j l d S := h.imp (·.mono hij) (·.mono hij)
theorem KInv.outs {n i : Nat} {l : Lg} {d : Dsk} {S : List (List (List Nat))} (h : KInv n i l d S) : Outs n i d S := by
  rcases h with h | h
  · exact h.outs
  · exact h.outs
theorem KInv.arm {n i : Nat} {l : Lg} {d : Dsk} {S : List (List (List Nat))} (h : KInv n i l d S) {x : Int} (hx : x < 9223372036854775808) : KInv n i l (d.arm x) S := by
  rcases h with h | h
  · by_cases h0 : x < 0 ∨ d.off = true
    · rw [show d.arm x = d by unfold Dsk.arm; rw [if_pos h0]]
      exact .inl h
    · obtain ⟨F, D, P, hr, hF, hS⟩ := h.ex
      have hok := hr.dok.arm hx
      have e : d.arm x = { d with fuse := x.toNat, fused := true } := by unfold Dsk.arm; rw [if_neg h0]
      rw [e] at hok ⊢
      have hlg : ∀ j, ({ d with fuse := x.toNat, fused := true } : Dsk).last.get j = d.last.get j := fun j => rfl
      refine .inl ⟨⟨F, D, P, ⟨hr.fit.disk rfl, hok, hr.base.congr hr.next.2.2 rfl hr.fit.n2 (fun j _ => hlg j) rfl rfl rfl rfl, hr.q, hr.gs, hr.nx, hr.H⟩, hF, hS⟩, h.kp.congr (fun j _ => hlg j) (fun j _ => hlg j) rfl rfl rfl, h.on, h.err, h.rn, h.ep, h.nx, h.gen⟩
  · rw [show d.arm x = d by unfold Dsk.arm; rw [if_pos (.inr h.off)]]
    exact .inr h
theorem arm_L (d : Dsk) (x : Int) : (d.arm x).L = d.L ∧ (d.arm x).Q = d.Q := by
  unfold Dsk.arm
  split <;> exact ⟨rfl, rfl⟩
end Go.Proofs.YtipbaajdnnddgaaGreat

/- Homes are written together, and last. -/
namespace Go.Tn.Dk
/-- What the store's write does. -/
def stSync (l : Lg) (d : Dsk) : Lg × Dsk × Nat := ((l.sync d).1, (l.sync d).2, (l.sync d).1.err)
def stPut (l : Lg) (d : Dsk) (ps : List Pt) : Lg × Dsk × Nat :=
  if (l.write d ps).2.2 = 0 then stSync (l.write d ps).1 (l.write d ps).2.1 else
  if (l.write d ps).2.2 ≠ 8 then l.write d ps else
  if ((l.write d ps).1.check (l.write d ps).2.1).2.2 ≠ 0 then (l.write d ps).1.check (l.write d ps).2.1 else
  if ((((l.write d ps).1.check (l.write d ps).2.1).1).write (((l.write d ps).1.check (l.write d ps).2.1).2.1) ps).2.2 = 0 then
    stSync ((((l.write d ps).1.check (l.write d ps).2.1).1).write (((l.write d ps).1.check (l.write d ps).2.1).2.1) ps).1 ((((l.write d ps).1.check (l.write d ps).2.1).1).write (((l.write d ps).1.check (l.write d ps).2.1).2.1) ps).2.1
  else (((l.write d ps).1.check (l.write d ps).2.1).1).write (((l.write d ps).1.check (l.write d ps).2.1).2.1) ps
end Go.Tn.Dk
namespace Go.Proofs.YtipbaajdnnddgaaGreat
open Go.RowKit Go.Tn Go.Tn.Bt Go.Tn.Lp Go.Tn.Dk Go.Tn.Ino
section
variable {w w' : World} {F FD : Nat → Prop} {s g p : Nat} {l : Lg} {d : Dsk}
/-- What a call that changes the store leaves. -/
def FPost (w : World) (F FD : Nat → Prop) (s g p : Nat) (r : Lg × Dsk × Nat) (e : Ending) (w' : World) : Prop := e = .returned (.int .i64 (r.2.2 : Nat)) ∧ ∃ F' FD', Fs w' F' FD' s g p r.1 r.2.1 ∧ Mod (fun b => F b ∨ FD b) w w' ∧ (∀ b, F' b → F b ∨ w.heap.size ≤ b) ∧ ∀ b, FD' b → FD b ∨ w.heap.size ≤ b
theorem GPost.fs {r : Lg × Dsk × Nat} {e : Ending} (h : Fs w F FD s g p l d) (hp : GPost w F FD g p r e w') : FPost w F FD s g p r e w' := by
  obtain ⟨h1, F', FD', h2, h3, h4, h5, h6, h7⟩ := hp
  exact ⟨h1, F', FD', h.turn h2 h3 h4 h5 h6 h7, h4, h5, h6⟩
theorem fs_write (h : Fs w F FD s g p l d) (hok : l.ok d) (v : Value) (ps : List Pt) (hpa : PtsA w (fun b => F b ∨ FD b) v ps) (hby : ∀ q ∈ ps, ∀ x ∈ q.2, x < 256) (hn : ps.length ≤ 100000) (hQ : d.Q.length ≤ 999990000) :
    Calls Tryz.prog 78 #[.pointer (some ⟨g, 0, none⟩), v] w fun e w' => FPost w F FD s g p (l.write d ps) e w' :=
  (gwrite_any h.log h.disk h.ap hok v ps hpa hby hn hQ).mono fun e w' hp => hp.fs h
theorem fs_check (h : Fs w F FD s g p l d) (hok : l.ok d) (hQ : d.Q.length ≤ 999980000) :
    Calls Tryz.prog 79 #[.pointer (some ⟨g, 0, none⟩)] w fun e w' => FPost w F FD s g p (l.check d) e w' :=
  (check_any h.log h.disk h.ap hok hQ).mono fun e w' hp => hp.fs h
theorem fs_sync (h : Fs w F FD s g p l d) : Calls Tryz.prog 80 #[.pointer (some ⟨g, 0, none⟩)] w fun e w' => FPost w F FD s g p (stSync l d) e w' :=
  (sync_any h.log h.disk h.ap).mono fun e w' ⟨h1, h2, h3, h4⟩ => ⟨h1, F, FD, h.turn h2 h3 h4 (fun b h => .inl h) (fun b h => .inl h) h.ap, h4, fun b h => .inl h, fun b h => .inl h⟩
/-- Puts are left alone by what changes the store. -/
theorem PtsA.fs {F' FD' : Nat → Prop} {v : Value} {ps : List Pt} (h : PtB w (fun b => F b ∨ FD b) v ps) (hm : Mod (fun b => F b ∨ FD b) w w') (h1 : ∀ b, F' b → F b ∨ w.heap.size ≤ b) (h2 : ∀ b, FD' b → FD b ∨ w.heap.size ≤ b) : PtB w' (fun b => F' b ∨ FD' b) v ps :=
  h.mod hm fun b hb => by
    rcases hb with hb | hb
    · exact (h1 b hb).imp .inl id
    · exact (h2 b hb).imp .inr id
theorem FPost.trans {r2 : Lg × Dsk × Nat} {e2 : Ending} {w1 w2 : World} {F' FD' : Nat → Prop} (hm : Mod (fun b => F b ∨ FD b) w w1) (h1 : ∀ b, F' b → F b ∨ w.heap.size ≤ b) (h2 : ∀ b, FD' b → FD b ∨ w.heap.size ≤ b) (h : FPost w1 F' FD' s g p r2 e2 w2) : FPost w F FD s g p r2 e2 w2 := by
  obtain ⟨k1, F2, FD2, k2, k3, k4, k5⟩ := h
  refine ⟨k1, F2, FD2, k2, hm.trans k3 (fun x hx => hx) (fun x hx hs => ?_), fun b hb => ?_, fun b hb => ?_⟩
  · rcases hs with hs | hs
    · rcases h1 x hs with h | h
      · exact .inl h
      · omega
    · rcases h2 x hs with h | h
      · exact .inr h
      · omega
  · rcases k4 b hb with h | h
    · exact h1 b h
    · exact .inr (Nat.le_trans hm.size h)
  · rcases k5 b hb with h | h
    · exact h2 b h
    · exact .inr (Nat.le_trans hm.size h)
end
end Go.Proofs.YtipbaajdnnddgaaGreat

/- Homes are written together, and last: walked. -/
namespace Go.Proofs.YtipbaajdnnddgaaGreat
open Go.RowKit Go.Tn Go.Tn.Bt Go.Tn.Lp Go.Tn.Dk Go.Tn.Ino
theorem dead_or (d : Dsk) : d.dead = 0 ∨ d.dead = 7 := by
  unfold Dsk.dead
  split
  · exact .inr rfl
  · exact .inl rfl
theorem putPcs_code (n : Nat) : ∀ (ps : List Pc) (d : Dsk), (putPcs n ps d).2 = 0 ∨ (putPcs n ps d).2 = 7
  | [], d => .inl rfl
  | q :: r, d => by
    rw [putPcs]
    split
    · exact dead_or d
    · exact putPcs_code n r _
theorem write_8 {l : Lg} {d : Dsk} {ps : List Pt} (h : (l.write d ps).2.2 = 8) : l.write d ps = (l, d, 8) := by
  revert h
  unfold Lg.write
  split
  · intro h
    rw [show l.err = 8 from h]
  · split
    · intro h
      cases h
    · split
      · intro h
        rfl
      · split
        · intro h
          rfl
        · split
          · intro h
            rcases putPcs_code l.n _ d with e | e
            · rw [e] at h
              cases h
            · rw [e] at h
              cases h
          · intro h
            cases h
theorem stPut_0 {l : Lg} {d : Dsk} {ps : List Pt} (h : (l.write d ps).2.2 = 0) : stPut l d ps = stSync (l.write d ps).1 (l.write d ps).2.1 := by
  unfold stPut
  rw [if_pos h]
theorem stPut_no {l : Lg} {d : Dsk} {ps : List Pt} (h : (l.write d ps).2.2 ≠ 0) (h8 : (l.write d ps).2.2 ≠ 8) : stPut l d ps = l.write d ps := by
  unfold stPut
  rw [if_neg h, if_pos h8]
theorem stPut_8 {l : Lg} {d : Dsk} {ps : List Pt} (h : (l.write d ps).2.2 = 8) : stPut l d ps =
    if (l.check d).2.2 ≠ 0 then l.check d else if ((l.check d).1.write (l.check d).2.1 ps).2.2 = 0 then stSync ((l.check d).1.write (l.check d).2.1 ps).1 ((l.check d).1.write (l.check d).2.1 ps).2.1 else (l.check d).1.write (l.check d).2.1 ps := by
  have e := write_8 h
  unfold stPut
  rw [if_neg (by rw [h]; decide), if_neg (by rw [h]; decide), e]
section
variable {w w' : World} {F FD : Nat → Prop} {s g p : Nat} {l : Lg} {d : Dsk}
set_option maxRecDepth 20000 in
set_option maxHeartbeats 2000000 in
theorem fwrite_any (h : Fs w F FD s g p l d) (hok : l.ok d) (v : Value) (ps : List Pt) (hpb : PtB w (fun b => F b ∨ FD b) v ps) (hby : ∀ q ∈ ps, ∀ x ∈ q.2, x < 256) (hn : ps.length ≤ 100000) (hQ : d.Q.length ≤ 999900000)
    (hok2 : (l.write d ps).2.2 = 8 → (l.check d).2.2 = 0 → (l.check d).1.ok (l.check d).2.1) : Calls Tryz.prog 62 #[.pointer (some ⟨s, 0, none⟩), v] w fun e w' => FPost w F FD s g p (stPut l d ps) e w' := by
  have hwr := fs_write h hok v ps hpb.a hby hn (by omega)
  have c := h.c
  have hck : ∀ (w2 : World) (F2 FD2 : Nat → Prop), Fs w2 F2 FD2 s g p l d → Calls Tryz.prog 79 #[.pointer (some ⟨g, 0, none⟩)] w2 fun e w' => FPost w2 F2 FD2 s g p (l.check d) e w' := fun _ _ _ h2 => fs_check h2 hok (by omega)
  have hq2 := (lcheck_Q (l := l) (d := d) h.disk.ok.hi).1
  obtain ⟨a, n, cap, rfl⟩ : ∃ a n c, v = .slice a n c := by
    obtain ⟨xs, -, ⟨ao, cap, rfl, -⟩, -⟩ := hpb
    exact ⟨_, _, _, rfl⟩
  have HPB := Lib.hid hpb
  have HBY := Lib.hid hby
  have HOK2 := Lib.hid hok2
  have HQ2 := Lib.hid hq2
  have HCK := Lib.hid hck
  clear h hok hpb hby hok2 hq2 hck
  go_enter Tryz.func62, Tryz.ntmps62
  go_wp2_with fail
  refine hwr.mono ?_
  rintro e w2 ⟨rfl, F2, FD2, h2, hm2, h12, h22⟩
  have c2 := h2.c
  have hpb2 := PtsA.fs HPB.out hm2 h12 h22
  obtain ⟨cd, hcd⟩ : ∃ cd, (l.write d ps).2.2 = cd := ⟨_, rfl⟩
  rw [hcd]
  by_cases h0 : cd = 0
  · subst h0
    have hsy := fs_sync h2
    have HE := Lib.hid (stPut_0 hcd)
    have HM2 := Lib.hid hm2
    have H12 := Lib.hid h12
    have H22 := Lib.hid h22
    clear hwr hcd h2 hm2 h12 h22 hpb2
    go_wp2_with fail
    refine hsy.mono ?_
    rintro e w3 hp3
    have hp4 := FPost.trans HM2.out H12.out H22.out hp3
    rw [← HE.out] at hp4
    obtain ⟨rfl, hp5⟩ := hp4
    have HP := Lib.hid hp5
    clear hsy hp3 hp5
    go_wp2
    go_ret
    exact ⟨rfl, HP.out⟩
  · by_cases h8 : cd = 8
    · subst h8
      have e8 := write_8 hcd
      rw [e8] at h2
      have hst := stPut_8 hcd
      have hok8 := HOK2.out hcd
      have hck2 := HCK.out _ _ _ h2
      have HM2 := Lib.hid hm2
      have H12 := Lib.hid h12
      have H22 := Lib.hid h22
      have HST := Lib.hid hst
      have HOK8 := Lib.hid hok8
      have HPB2 := Lib.hid hpb2
      clear hwr hcd h2 hm2 h12 h22 hpb2 e8 hst hok8
      go_wp2_with fail
      refine hck2.mono ?_
      rintro e w3 ⟨rfl, F3, FD3, h3, hm3, h13, h23⟩
      have c3 := h3.c
      have HPB3 := Lib.hid (PtsA.fs HPB2.out hm3 h13 h23)
      have H3 := Lib.hid h3
      have ht : ∀ (r2 : Lg × Dsk × Nat) (e2 : Ending) (w4 : World), FPost w3 F3 FD3 s g p r2 e2 w4 → FPost w F FD s g p r2 e2 w4 := fun r2 _ _ hp => FPost.trans HM2.out H12.out H22.out (FPost.trans hm3 h13 h23 hp)
      have hstay : FPost w F FD s g p (l.check d) (.returned (.int .i64 ((l.check d).2.2 : Nat))) w3 := FPost.trans HM2.out H12.out H22.out ⟨rfl, F3, FD3, h3, hm3, h13, h23⟩
      have HT := Lib.hid ht
      have HSY := Lib.hid hstay
      clear hck2 h3 hm3 h13 h23 ht hstay
      generalize hr3 : l.check d = r3 at *
      obtain ⟨l3, d3, cd3⟩ := r3
      simp only at *
      by_cases hc3 : cd3 = 0
      · subst hc3
        have hw3 := fs_write H3.out (HOK8.out rfl) _ ps HPB3.out.a HBY.out hn (by have := HQ2.out; omega)
        have HST3 := Lib.hid HST.out
        clear HST
        rw [if_neg (by decide)] at HST3
        go_wp2_with fail
        refine hw3.mono ?_
        rintro e w4 hp4
        obtain ⟨he4, F4, FD4, h4, hm4, h14, h24⟩ := hp4
        subst he4
        have c4 := h4.c
        generalize hr4 : l3.write d3 ps = r4 at *
        obtain ⟨l4, d4, cd4⟩ := r4
        simp only at *
        by_cases hc4 : cd4 = 0
        · subst hc4
          have hsy := fs_sync h4
          have HST4 := Lib.hid HST3.out
          clear HST3
          rw [if_pos rfl] at HST4
          have HM4 := Lib.hid hm4
          have H14 := Lib.hid h14
          have H24 := Lib.hid h24
          clear hw3 h4 hm4 h14 h24
          go_wp2_with fail
          refine hsy.mono ?_
          rintro e w5 hp5
          have hp6 := HT.out _ _ _ (FPost.trans HM4.out H14.out H24.out hp5)
          rw [← HST4.out] at hp6
          obtain ⟨rfl, hp7⟩ := hp6
          have HP := Lib.hid hp7
          clear hsy hp5 hp7
          go_wp2
          go_ret
          exact ⟨rfl, HP.out⟩
        · have hne : ((cd4 : Int) != 0) = true := by rw [bne_iff_ne]; omega
          have HST4 := Lib.hid HST3.out
          clear HST3
          rw [if_neg hc4] at HST4
          have hp6 := HT.out _ _ _ (⟨rfl, F4, FD4, h4, hm4, h14, h24⟩ : FPost w3 F3 FD3 s g p (l4, d4, cd4) (.returned (.int .i64 (cd4 : Nat))) w4)
          have HP := Lib.hid hp6
          clear hw3 h4 hm4 h14 h24 hp6
          go_wp2
          go_ret
          rw [HST4.out]
          exact HP.out
      · have hne : ((cd3 : Int) != 0) = true := by rw [bne_iff_ne]; omega
        have heq : ((cd3 : Int) == 0) = false := beq_eq_false_iff_ne.2 (by omega)
        have HST3 := Lib.hid HST.out
        clear HST
        rw [if_pos hc3] at HST3
        go_wp2
        go_ret
        rw [HST3.out]
        exact HSY.out
    · have hne : ((cd : Int) != 0) = true := by rw [bne_iff_ne]; omega
      have heq : ((cd : Int) == 8) = false := beq_eq_false_iff_ne.2 (by omega)
      have hst := stPut_no (l := l) (d := d) (ps := ps) (by rw [hcd]; exact h0) (by rw [hcd]; exact h8)
      have HP : Hid (FPost w F FD s g p (l.write d ps) (.returned (.int .i64 (cd : Nat))) w2) := Lib.hid ⟨by rw [hcd], F2, FD2, h2, hm2, h12, h22⟩
      have HST := Lib.hid hst
      clear hwr hcd h2 hm2 h12 h22 hpb2 hst
      go_wp2
      go_ret
      rw [HST.out]
      exact HP.out
end
end Go.Proofs.YtipbaajdnnddgaaGreat

/- A change in memory; change. -/
namespace Go.Proofs.YtipbaajdnnddgaaGreat
open Go.RowKit Go.Tn Go.Tn.Bt Go.Tn.Lp Go.Tn.Dk Go.Tn.Ino
/-- Homes that are to be changed together: their blocks are among G. -/
structure ChAt (w : World) (G : Nat → Prop) (c s n : Nat) (T : Nat → Bool) (H : Nat → Option (List Nat)) (err : Nat) : Prop where
  ex : ∃ m mm L clk, w.heap[c]? = some (.cells #[.pointer (some ⟨s, 0, none⟩), .pointer (some ⟨m, 0, none⟩), .map (some mm), .int .i64 (err : Nat)] 117 (0, 0)) ∧ Al.MapAt w m n T ∧ HAt w G mm L clk H ∧ m ≠ c ∧ mm ≠ c ∧ mm ≠ m ∧ G m ∧ ∀ e ∈ L, e.2.1.ownBlock ≠ some c ∧ e.2.1.ownBlock ≠ some m
  gc : G c
  lt : ∀ b, G b → b < w.heap.size
section
variable {w w' : World} {G : Nat → Prop} {c s n : Nat} {T : Nat → Bool} {H : Nat → Option (List Nat)} {err : Nat}
theorem ChAt.kept (h : ChAt w G c s n T H err) (hs : w.heap.size ≤ w'.heap.size) (hb : ∀ b, G b → w'.heap[b]? = w.heap[b]?) : ChAt w' G c s n T H err := by
  obtain ⟨m, mm, L, clk, h1, h2, h3, h4, h5, h6, h7, h8⟩ := h.ex
  exact ⟨⟨m, mm, L, clk, (hb c h.gc).trans h1, ⟨(hb m h7).trans h2.blk, h2.pos, h2.le, h2.out⟩, h3.kept hs hb, h4, h5, h6, h7, h8⟩, h.gc, fun b hG => Nat.lt_of_lt_of_le (h.lt b hG) hs⟩
theorem ChAt.below (h : ChAt w G c s n T H err) (hb : Below w.heap.size w w') : ChAt w' G c s n T H err := h.kept hb.size fun b hG => hb.block b (h.lt b hG)
theorem ChAt.mod {S : Nat → Prop} (h : ChAt w G c s n T H err) (hm : Mod S w w') (hS : ∀ b, G b → ¬ S b) : ChAt w' G c s n T H err := h.kept hm.size fun b hG => hm.block b (h.lt b hG) (hS b hG)
end
section
variable {w w' : World} {F FD : Nat → Prop} {s g p : Nat} {l : Lg} {d : Dsk}
set_option maxRecDepth 20000 in
set_option maxHeartbeats 2000000 in
theorem fchange_any (h : Fs w F FD s g p l d) (hok : l.ok d) (h2 : 2 ≤ l.homes d) (h1024 : l.homes d ≤ 1024) (ht : takenB (l.home d 1) (l.homes d)) : Calls Tryz.prog 49 #[.pointer (some ⟨s, 0, none⟩)] w
    fun e w' => ∃ c G, e = .returned (.pointer (some ⟨c, 0, none⟩)) ∧ ChAt w' G c s (l.homes d) (mapT (l.home d 1)) (fun _ => none) 0 ∧ Below w.heap.size w w' ∧ ∀ b, G b → w.heap.size ≤ b := by
  have HF := Lib.hid h
  have HOK := Lib.hid hok
  have HT := Lib.hid ht
  clear h hok ht
  have hmm := @run_makeMap Tryz.prog
  have hb1 : Below w.heap.size w ((w.alloc (.map #[] 0)).alloc (.cells #[.pointer (some ⟨s, 0, none⟩), .pointer none, .map (some w.heap.size), .int .i64 0] 117)) := ((Below.refl _ _).alloc (Nat.le_refl _) _).alloc (by simp) _
  have hz0 : (w.alloc (.map #[] 0)).heap.size = w.heap.size + 1 := by simp
  have hz1 : ((w.alloc (.map #[] 0)).alloc (.cells #[.pointer (some ⟨s, 0, none⟩), .pointer none, .map (some w.heap.size), .int .i64 0] 117)).heap.size = w.heap.size + 2 := by simp
  have hc1 : ((w.alloc (.map #[] 0)).alloc (.cells #[.pointer (some ⟨s, 0, none⟩), .pointer none, .map (some w.heap.size), .int .i64 0] 117)).heap[w.heap.size + 1]? = some (.cells #[.pointer (some ⟨s, 0, none⟩), .pointer none, .map (some w.heap.size), .int .i64 0] 117 (0, 0)) := by
    rw [← hz0]
    exact heap_alloc_at
  have hm1 : ((w.alloc (.map #[] 0)).alloc (.cells #[.pointer (some ⟨s, 0, none⟩), .pointer none, .map (some w.heap.size), .int .i64 0] 117)).heap[w.heap.size]? = some (.map (ents encI []) 0) := heap_alloc_of heap_alloc_at
  generalize hw1 : (w.alloc (.map #[] 0)).alloc (.cells #[.pointer (some ⟨s, 0, none⟩), .pointer none, .map (some w.heap.size), .int .i64 0] 117) = w1 at hb1 hz1 hc1 hm1
  have htk := ftaken_any (HF.out.below hb1) HOK.out h2 h1024
  have HB1 := Lib.hid hb1
  have HZ1 := Lib.hid hz1
  have HC1 := Lib.hid hc1
  have HM1 := Lib.hid hm1
  clear hb1 hz0 hz1 hc1 hm1
  go_enter Tryz.func49, Tryz.ntmps49
  go_wp2_with fail
  refine htk.mono ?_
  rintro e w2 ⟨hy, -, hb2⟩
  obtain ⟨m, rfl, hM, hm⟩ := hy HT.out
  have hz := HZ1.out
  have hsz2 := hb2.size
  have hc2 := (hb2.block (w.heap.size + 1) (by omega)).trans HC1.out
  have hm2 := (hb2.block w.heap.size (by omega)).trans HM1.out
  have p1 := cell_of (o := 1) hc2 rfl
  have p3 := cell_of (o := 3) hc2 rfl
  have f1 : w2.frozen? ⟨w.heap.size + 1, 1, none⟩ = false := free_of hc2
  have f3 : w2.frozen? ⟨w.heap.size + 1, 3, none⟩ = false := free_of hc2
  have hml := hM.lt
  have HM2 := Lib.hid hM
  have HC2 := Lib.hid hc2
  have HMM := Lib.hid hm2
  have HB2 := Lib.hid (HB1.out.trans (hb2.mono HB1.out.size))
  clear htk hy hw1 hb2 hM hc2 hm2
  go_wp2
  go_ret
  have hmod := ((Mod.refl (fun x => x = w.heap.size + 1) w2).setCell ⟨w.heap.size + 1, 1, none⟩ (.pointer (some ⟨m, 0, none⟩)) (fun _ => rfl)).setCell ⟨w.heap.size + 1, 3, none⟩ (.int .i64 0) (fun _ => rfl)
  refine ⟨w.heap.size + 1, fun b => b = w.heap.size + 1 ∨ b = w.heap.size ∨ b = m, rfl, ⟨⟨m, w.heap.size, [], 0, ?_, HM2.out.mod hmod (by omega), ⟨hmod.heap HMM.out (by omega), WF.nil _, fun e he => absurd he (by simp), fun k hk => absurd rfl hk, .inr (.inl rfl)⟩, by omega, by omega, by omega, .inr (.inr rfl), fun e he => absurd he (by simp)⟩, .inl rfl, fun b hb => ?_⟩, HB2.out.trans (hmod.below HB2.out.size fun x hx e => by omega), fun b hb => by omega⟩
  · rw [heap_setCell_at (heap_setCell_at HC2.out)]
    rfl
  · have := hmod.size
    rcases hb with rfl | rfl | rfl <;> omega
end
end Go.Proofs.YtipbaajdnnddgaaGreat

/- An inode is to be another one. -/
namespace Go.Proofs.YtipbaajdnnddgaaGreat
open Go.RowKit Go.Tn Go.Tn.Bt Go.Tn.Lp Go.Tn.Dk Go.Tn.Ino
def putH (H : Nat → Option (List Nat)) (k : Nat) (b : List Nat) : Nat → Option (List Nat) := fun j => if j = k then some b else H j
/-- A map of homes with one more, behind 'm[k] = v'. -/
theorem HAt.more {w w1 w3 : World} {G : Nat → Prop} {m clk : Nat} {L : Ents Int} {H : Nat → Option (List Nat)} (hH : HAt w G m L clk H) (hb : Below w.heap.size w w1) (hlt : ∀ b, G b → b < w.heap.size) {k : Nat} {v : Value} {b : List Nat} (hv : LRd en8 1 0 w1 v b) (hnew : ∀ r, v.ownBlock = some r → w.heap.size ≤ r)
    (hh3 : w3.heap[m]? = some (.map (ents encI (upd ((k : Nat) : Int) v L clk)) (updClk ((k : Nat) : Int) L clk))) (hwf3 : WF (upd ((k : Nat) : Int) v L clk) (updClk ((k : Nat) : Int) L clk)) (hm3 : Mod (fun x => x = m) w1 w3) :
    HAt w3 (fun x => G x ∨ (w.heap.size ≤ x ∧ x < w3.heap.size)) m (upd ((k : Nat) : Int) v L clk) (updClk ((k : Nat) : Int) L clk) (putH H k b) := by
  have hml : m < w.heap.size := lt_of_block hH.blk
  refine ⟨hh3, hwf3, fun e he => ?_, fun j hj => ?_, .inl hH.fm⟩
  · rcases mem_upd hH.wf he with ⟨he1, hne⟩ | ⟨he1, he2, -⟩
    · obtain ⟨j, hj1, b', hj2, hj3, hj4⟩ := hH.key e he1
      refine ⟨j, hj1, b', ?_, ?_, fun r hr => ⟨.inl (hj4 r hr).1, (hj4 r hr).2⟩⟩
      · unfold putH
        rw [if_neg (fun e' => hne (by rw [hj1, e']))]
        exact hj2
      · exact (hj3.kept hb.size fun r hr => hb.block r (hlt r (hj4 r hr).1)).kept hm3.size fun r hr => hm3.block r (Nat.lt_of_lt_of_le (hj3.lt r hr) hb.size) (hj4 r hr).2
    · refine ⟨k, he1, b, ?_, ?_, fun r hr => ?_⟩
      · unfold putH
        rw [if_pos rfl]
      · rw [he2]
        exact hv.kept hm3.size fun r hr => hm3.block r (hv.lt r hr) (fun e => by have := hnew r hr; have e : r = m := e; omega)
      · rw [he2] at hr
        have h1 := hnew r hr
        have h2 := hv.lt r hr
        have h3 := hm3.size
        exact ⟨.inr ⟨h1, by omega⟩, by omega⟩
  · have hg := get_upd (j := (j : Int)) (k := ((k : Nat) : Int)) (v := v) hH.wf
    have hne : get (j : Int) (upd ((k : Nat) : Int) v L clk) ≠ none := by
      rw [hg]
      by_cases hja : (j : Int) = (k : Nat)
      · rw [if_pos hja]
        exact fun e => by cases e
      · rw [if_neg hja]
        unfold putH at hj
        rw [if_neg (fun e => hja (by rw [e]))] at hj
        obtain ⟨e, he, hej⟩ := hH.all j hj
        exact fun hn => get_none.1 hn e he hej
    cases hgo : get (j : Int) (upd ((k : Nat) : Int) v L clk) with
    | none => exact absurd hgo hne
    | some u =>
      obtain ⟨b', hb'⟩ := get_some hgo
      exact ⟨_, hb', rfl⟩
section
variable {w w' : World} {G : Nat → Prop} {c s n : Nat} {T : Nat → Bool} {H : Nat → Option (List Nat)} {err : Nat}
/-- A change with one home more. -/
theorem ChAt.more {w1 w3 : World} {m mm clk : Nat} {L : Ents Int} (h : ChAt w G c s n T H err) (hblk : w.heap[c]? = some (.cells #[.pointer (some ⟨s, 0, none⟩), .pointer (some ⟨m, 0, none⟩), .map (some mm), .int .i64 (err : Nat)] 117 (0, 0))) (hM : Al.MapAt w m n T) (hH : HAt w G mm L clk H) (h4 : m ≠ c) (h5 : mm ≠ c) (h6 : mm ≠ m) (h7 : G m) (h8 : ∀ e ∈ L, e.2.1.ownBlock ≠ some c ∧ e.2.1.ownBlock ≠ some m)
    (hb : Below w.heap.size w w1) {k : Nat} {v : Value} {b : List Nat} (hv : LRd en8 1 0 w1 v b) (hnew : ∀ r, v.ownBlock = some r → w.heap.size ≤ r)
    (hh3 : w3.heap[mm]? = some (.map (ents encI (upd ((k : Nat) : Int) v L clk)) (updClk ((k : Nat) : Int) L clk))) (hwf3 : WF (Go.Tn.upd ((k : Nat) : Int) v L clk) (updClk ((k : Nat) : Int) L clk)) (hm3 : Mod (fun x => x = mm) w1 w3) :
    ChAt w3 (fun x => G x ∨ (w.heap.size ≤ x ∧ x < w3.heap.size)) c s n T (putH H k b) err := by
  have hcl := h.lt c h.gc
  have hml := h.lt m h7
  have hM1 := hM.below hb hml
  refine ⟨⟨m, mm, _, _, hm3.heap ((hb.block c hcl).trans hblk) (fun e => h5 e.symm), hM1.mod hm3 (fun e => h6 e.symm), hH.more hb h.lt hv hnew hh3 hwf3 hm3, h4, h5, h6, .inl h7, fun e he => ?_⟩, .inl h.gc, fun x hx => ?_⟩
  · rcases mem_upd hH.wf he with ⟨he1, -⟩ | ⟨-, he2, -⟩
    · exact h8 e he1
    · rw [he2]
      exact ⟨fun e => by have := hnew _ e; omega, fun e => by have := hnew _ e; omega⟩
  · rcases hx with hx | hx
    · exact Nat.lt_of_lt_of_le (h.lt x hx) (Nat.le_trans hb.size hm3.size)
    · exact hx.2
set_option maxRecDepth 20000 in
set_option maxHeartbeats 2000000 in
theorem fsetinode_any (h : ChAt w G c s n T H err) (i : Nat) (hi : i < 4096) (x : Ino) (hf : x.fits) (hr : x.right = true) : Calls Tryz.prog 50 #[.pointer (some ⟨c, 0, none⟩), .int .i64 i, .agg (inoC x)] w
    fun e w' => e = .returned (.tuple #[]) ∧ ∃ G', ChAt w' G' c s n T (putH H (1 + i) x.sec) err ∧ Mod G w w' ∧ ∀ b, G' b → G b ∨ w.heap.size ≤ b := by
  have hb1 : Below w.heap.size w (w.alloc (.cells (inoC x) 89)) := (Below.refl _ _).alloc (Nat.le_refl _) _
  have hL1 : Lies (w.alloc (.cells (inoC x) 89)) w.heap.size 0 (inoC x) := lies_of heap_alloc_at
  have hen := ienc_ok (w.alloc (.cells (inoC x) 89)) x hf hr
  have hag := aggI hf.len
  have hi63 : (i : Int) < 4096 := by omega
  have HC := Lib.hid h
  have HB1 := Lib.hid hb1
  clear h hb1 hf hr
  go_enter Tryz.func50, Tryz.ntmps50
  go_wp2_with (first
    | ((with_reducible refine wpList_loadA hag hL1 ?_ ?_); rfl; go_frame)
    | fail)
  refine hen.mono ?_
  rintro e w2 ⟨v, rfl, hO, hb2⟩
  have hb12 := HB1.out.trans (hb2.mono HB1.out.size)
  obtain ⟨m, mm, L, clk, k1, k2, k3, k4, k5, k6, k7, k8⟩ := HC.out.ex
  have hcl := HC.out.lt c HC.out.gc
  have hk1 := (hb12.block c hcl).trans k1
  have p2 := cell_of (o := 2) hk1 rfl
  obtain ⟨a, nn, cap, rfl⟩ := hO.shape
  have hmm := (hb12.block mm (HC.out.lt mm k3.fm)).trans k3.blk
  have hwf := k3.wf
  have fin : ∀ w3 : World, w3.heap[mm]? = some (.map (ents encI (upd ((1 + i : Nat) : Int) (.slice a nn cap) L clk)) (updClk ((1 + i : Nat) : Int) L clk)) → WF (upd ((1 + i : Nat) : Int) (.slice a nn cap) L clk) (updClk ((1 + i : Nat) : Int) L clk) → Mod (fun x => x = mm) w2 w3 → ∃ G', ChAt w3 G' c s n T (putH H (1 + i) x.sec) err ∧ Mod G w w3 ∧ ∀ b, G' b → G b ∨ w.heap.size ≤ b := fun w3 h1 h2 h3 =>
    ⟨_, ChAt.more HC.out k1 k2 k3 k4 k5 k6 k7 k8 hb12 ((hO.rd el8.len).mono (Nat.zero_le _)) (fun r hr => Nat.le_trans HB1.out.size (hO.lo r hr)) h1 h2 h3, ((Mod.of_below hb12).mono (T := G) fun x hx hS => absurd hx (Nat.not_lt.2 hS)).trans h3 (fun x hx => hx) (fun x _ (hx : x = mm) => hx ▸ k3.fm), fun b hb => hb.imp id fun h => h.1⟩
  have HFIN := Lib.hid fin
  clear hen hL1 hO hb2 hb12 k1 k2 k3 k4 k5 k6 k7 k8 hk1 fin
  have e1 : ((1 + i : Nat) : Int) = 1 + (i : Int) := Int.natCast_add 1 i
  rw [e1] at HFIN
  go_wp2_with (first
    | ((with_reducible refine wpList_mapUpd keyI Tryz.underlying100 hmm hwf (1 + (i : Int)) (.slice a nn cap) ?_ ?_ ?_ ?_); rfl; rfl; rfl; (intro w3 h1 h2 h3; have HP := Lib.hid (HFIN.out w3 h1 h2 h3); clear h1 h2 h3); go_frame)
    | fail)
  go_end0
  exact ⟨rfl, HP.out⟩
end
end Go.Proofs.YtipbaajdnnddgaaGreat
