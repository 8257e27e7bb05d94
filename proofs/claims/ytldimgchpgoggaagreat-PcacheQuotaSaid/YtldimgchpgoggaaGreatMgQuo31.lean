/- Blocks that are kept: calls where there is no fuse. -/
import Derived.Test.YtldimgchpgoggaaGreatMgQuo25
import Derived.Test.YtldimgchpgoggaaGreatMgQuo30
/- A log where no fuse burns; what a write makes of the homes. Plain. -/
namespace Go.Proofs.YtldimgchpgoggaaGreat
open Go.RowKit Go.Tn Go.Tn.Bt Go.Tn.Lp Go.Tn.Dk
theorem write_homes {l : Lg} {d : Dsk} {ps : List Pt} (hon : d.off = false) (herr : l.err = 0) (hn2 : 2 ≤ l.n) (ht : transB ps (l.homes d) = true) (hc : cutB l.epoch l.next (recB ps) = .ok (cutL l.epoch l.next (recB ps))) (h0 : (l.write d ps).2.2 = 0) : homesB (l.write d ps).1 (l.write d ps).2.1 = overB (homesB l d) ps := by
  by_cases hf : l.free < (cutL l.epoch l.next (recB ps)).length
  · rw [write_full herr ht hc hf] at h0
    cases h0
  · have hpl := putPcs_live l.n (cutL l.epoch l.next (recB ps)) d hon
    have hw : l.write d ps = if (putPcs l.n (cutL l.epoch l.next (recB ps)) d).2 ≠ 0 then ({ l with err := (putPcs l.n (cutL l.epoch l.next (recB ps)) d).2 }, (putPcs l.n (cutL l.epoch l.next (recB ps)) d).1, (putPcs l.n (cutL l.epoch l.next (recB ps)) d).2)
        else ({ l with next := l.next + (cutL l.epoch l.next (recB ps)).length, H := takeH l.H ps }, (putPcs l.n (cutL l.epoch l.next (recB ps)) d).1, 0) := by
      unfold Lg.write
      rw [if_neg (by omega), if_neg (by rw [ht]; decide), hc]
      simp only
      rw [if_neg hf]
    rw [hw] at h0 ⊢
    generalize putPcs l.n (cutL l.epoch l.next (recB ps)) d = r at *
    obtain ⟨d', c⟩ := r
    simp only at hpl
    rcases hpl with ⟨rfl, p2, p3, p4⟩ | ⟨rfl, p2, p3, m, p4⟩
    · rw [if_neg (by simp)]
      exact homesB_write hn2 rfl rfl p3 p4 ht
    · rw [if_pos (by simp)] at h0
      cases h0
structure Quiet (d : Dsk) : Prop where
  calm : Dsk.calm d
  fuse : True
theorem Quiet.write {l : Lg} {d : Dsk} {ps : List Pt} (h : Quiet d) : Quiet (l.write d ps).2.1 := by
  unfold Lg.write
  split
  · exact h
  · split
    · exact h
    · split
      · exact h
      · split
        · exact h
        · rename_i pcs _ _
          have hp := putPcs_calm l.n pcs d h.calm
          rw [hp]
          exact ⟨⟨h.calm.fuse, h.calm.on⟩, h.fuse⟩
theorem Quiet.flush {d : Dsk} (h : Quiet d) : Quiet d.flush ∧ d.flush.Q = [] := by
  rw [h.calm.flush]
  exact ⟨⟨⟨h.calm.fuse, h.calm.on⟩, h.fuse⟩, rfl⟩
theorem Quiet.sync {l : Lg} {d : Dsk} (h : Quiet d) : Quiet (l.sync d).2 := by
  unfold Lg.sync
  split
  · exact h
  · exact h.flush.1
theorem Quiet.check {l : Lg} {d : Dsk} (h : Quiet d) : Quiet (l.check d).2.1 := by
  have hs := h.sync (l := l)
  unfold Lg.check
  generalize (l.sync d).2 = d1 at *
  have hb : Quiet (l.bring d1).1 := by
    unfold Lg.bring
    rw [bringGo_calm _ _ _ hs.calm]
    exact ⟨⟨hs.calm.fuse, hs.calm.on⟩, hs.fuse⟩
  split
  · exact hs
  · split
    · exact hs
    · split
      · exact hb
      · have hv : Quiet ((l.bring d1).1.save 0 l.epoch ⟨l.gen + 1, l.next, l.epoch⟩).1 := by
          rw [save_calm hb.calm]
          exact ⟨⟨hb.calm.fuse, hb.calm.on⟩, hb.fuse⟩
        split
        · exact hv
        · exact hv
end Go.Proofs.YtldimgchpgoggaaGreat

/- A log where no fuse burns, opened anew while writes wait. Plain. -/
namespace Go.Proofs.YtldimgchpgoggaaGreat
open Go.RowKit Go.Tn Go.Tn.Bt Go.Tn.Lp Go.Tn.Dk
theorem flush_gets {d : Dsk} (hc : Dsk.calm d) (hd : d.ok) (i : Nat) : d.flush.get i = d.get i := by
  by_cases hi : i < d.L.length
  · rw [hc.flush]
    exact flush_get rfl rfl hi
  · have hL : d.flush.L.length = d.L.length := flush_L d
    have e1 : d.flush.get i = [] := by
      rw [hc.flush]
      show seenQ [] i ((laid d.Q d.L).getD i []) = []
      show (laid d.Q d.L).getD i [] = []
      rw [List.getD_eq_getElem?_getD, List.getElem?_eq_none (by rw [laid_len]; omega)]
      rfl
    rw [e1]
    unfold Dsk.get
    rw [seen_no _ _ _ fun x hx => by have := (hd.que x hx).1; omega, List.getD_eq_getElem?_getD, List.getElem?_eq_none (by omega)]
    rfl
/-- A log where no fuse burns. -/
structure CLive (n i : Nat) (l : Lg) (d : Dsk) : Prop where
  rg : ∃ F D, Rg d.flush l F D []
  calm : Dsk.calm d
  dok : d.ok
  rn : l.n = n
  err : l.err = 0
  ep : l.epoch ≤ i + 1
  ends : Ends d (2 + n) (i + 1)
  next : l.next ≤ 100 * i
  gen : l.gen ≤ i
  q : d.Q.length ≤ 1000 * i
section
variable {n i j : Nat} {l : Lg} {d : Dsk}
theorem CLive.mono (h : CLive n i l d) (hij : i ≤ j) : CLive n j l d :=
  ⟨h.rg, h.calm, h.dok, h.rn, h.err, by have := h.ep; omega, fun k hk => by have := h.ends k hk; omega, by have := h.next; omega, by have := h.gen; omega, by have := h.q; omega⟩
theorem CLive.fit (h : CLive n i l d) : l.fit d := by
  obtain ⟨F, D, hr⟩ := h.rg
  exact hr.fit.disk (d' := d) (flush_L d).symm
theorem CLive.ok (h : CLive n i l d) (hi : i ≤ 1000) : l.ok d := h.fit.ok (by have := h.next; omega)
theorem CLive.homes (h : CLive n i l d) : homesB l d.flush = homesB l d := by
  unfold homesB
  have hh : l.homes d.flush = l.homes d := by unfold Lg.homes; rw [flush_L]
  rw [hh]
  refine List.map_congr_left fun k _ => ?_
  unfold Lg.home
  rw [flush_gets h.calm h.dok]
/-- A transaction that there is room for. -/
theorem clive_write (h : CLive n i l d) (hi : i ≤ 1000) {ps : List Pt} (hb : ∀ p ∈ ps, ∀ x ∈ p.2, x < 256) (ht : transB ps (l.homes d) = true) (hf : cutN (recB ps) ≤ l.free) :
    (l.write d ps).2.2 = 0 ∧ CLive n (i + 1) (l.write d ps).1 (l.write d ps).2.1 ∧ homesB (l.write d ps).1 (l.write d ps).2.1 = overB (homesB l d) ps := by
  obtain ⟨F, D, hr⟩ := h.rg
  have hep := h.ep
  have hnx := h.next
  have hc := cut_ok (ep := l.epoch) (ct := l.next) ht (by omega) (by omega)
  have hfl : (cutL l.epoch l.next (recB ps)).length ≤ l.free := by rw [cutL_len]; exact hf
  have hw := write_calm h.calm h.err ht hc hfl
  have hok := write_dok (ps := ps) h.fit h.dok (by have := h.q; omega)
  have hpl : (cutL l.epoch l.next (recB ps)).length ≤ 100 := by
    have := recN ht
    rw [cutL_len]
    omega
  have hpe : ∀ q ∈ cutL l.epoch l.next (recB ps), q.ok ∧ q.ep = l.epoch := fun q hq => by
    have hg : (⟨l.epoch, ps⟩ : Rc).good (l.homes d) l.next := ⟨ht, hb, hc⟩
    have hpc : cutL l.epoch l.next (recB ps) = (⟨l.epoch, ps⟩ : Rc).pcs l.next := rfl
    rw [hpc] at hq
    obtain ⟨j, hj, rfl⟩ := mem_pcs hq
    exact ⟨hg.ok _ hq, rfl⟩
  have hho := write_homes h.calm.on h.err h.fit.n2 ht hc (by rw [hw])
  rw [hw] at hok hho ⊢
  simp only at hok hho ⊢
  have hLf := flush_L d
  have hcalm : Dsk.calm ({ d with Q := d.Q ++ ringQ l.n (cutL l.epoch l.next (recB ps)) } : Dsk) := ⟨h.calm.fuse, h.calm.on⟩
  have hflok : (({ d with Q := d.Q ++ ringQ l.n (cutL l.epoch l.next (recB ps)) } : Dsk).flush).ok := hok.flush
  refine ⟨trivial, ⟨⟨F, D ++ [⟨l.epoch, ps⟩], ?_⟩, hcalm, hok, h.rn, h.err, by simp only; omega, fun j hj => ?_, by simp only; omega, by have := h.gen; simp only; omega, ?_⟩, hho⟩
  · have hfl2 := hcalm.flush
    simp only at hfl2
    have hd1ok : ({ d with L := laid d.Q d.L, Q := ringQ l.n (cutL l.epoch l.next (recB ps)) } : Dsk).ok := by
      have h1 := hr.dok
      rw [h.calm.flush] at h1
      refine ⟨h1.lo, h1.hi, h1.sec, fun x hx => ?_, ?_, h1.fuse⟩
      · have := hok.que x (List.mem_append.2 (.inr hx))
        simp only [laid_len] at this ⊢
        exact this
      · have := hok.small
        simp only [List.length_append] at this ⊢
        omega
    have hr1 : Rg ({ d with L := laid d.Q d.L, Q := ringQ l.n (cutL l.epoch l.next (recB ps)) } : Dsk) _ F D ([] ++ [⟨l.epoch, ps⟩]) :=
      hr.write (by unfold Lg.homes at ht ⊢; rw [hLf]; exact ht) hb hc hfl (by rw [h.calm.flush]) (by rw [h.calm.flush]; rfl) hd1ok
    rw [List.nil_append] at hr1
    refine hr1.flush ?_ ?_ hflok
    · rw [hfl2]
      show laid (d.Q ++ _) d.L = laid _ (laid d.Q d.L)
      unfold laid
      rw [List.foldl_append]
    · rw [hfl2]
  · have hg : ({ d with Q := d.Q ++ ringQ l.n (cutL l.epoch l.next (recB ps)) } : Dsk).get j = seenQ (ringQ l.n (cutL l.epoch l.next (recB ps))) j (d.get j) := by
      unfold Dsk.get
      exact seen_append _ _ _ _
    rw [hg]
    rcases seen_or (ringQ l.n (cutL l.epoch l.next (recB ps))) j (d.get j) with e | ⟨x, hx, _, e⟩
    · rw [e]
      have := h.ends j hj
      omega
    · rw [e]
      obtain ⟨q, hq, rfl⟩ := List.mem_map.1 hx
      have := hpe q hq
      simp only
      rw [ends_seal this.1, this.2]
      omega
  · simp only [List.length_append, ringQ, List.length_map]
    have := h.q
    omega
theorem clive_check (h : CLive n i l d) (hi : i ≤ 1000) : (l.check d).2.2 = 0 ∧ CLive n (i + 1) (l.check d).1 (l.check d).2.1 ∧ homesB (l.check d).1 (l.check d).2.1 = homesB l d ∧ (l.check d).1.free = n := by
  obtain ⟨F, D, hr⟩ := h.rg
  have hcf : Dsk.calm d.flush := by rw [h.calm.flush]; exact ⟨h.calm.fuse, h.calm.on⟩
  have hff : d.flush.flush = d.flush := by
    have h1 := hcf.flush
    rw [h1]
    rw [h.calm.flush]
    rfl
  have hsame : l.check d = l.check d.flush := by
    have e1 := sync_calm h.calm h.err
    have e2 := sync_calm hcf h.err
    rw [hff] at e2
    unfold Lg.check
    rw [e1, e2]
  have hok := check_dok (l := l) h.fit h.dok (by have := h.q; omega)
  obtain ⟨d', hc, hcalm, hL, hQ, hrg, hho, hlow⟩ := check_calm hr hcf h.err (by have := h.gen; omega) (by have := h.next; omega)
  rw [hsame, hc] at hok
  rw [hsame, hc]
  simp only at hok ⊢
  have hrg' := hrg hok
  have hLf := flush_L d
  have hn := h.rn
  have hfl' : d'.flush = d' := by
    rw [hcalm.flush, hQ]
    obtain ⟨L', Q', a, b, c⟩ := d'
    simp only at hQ
    subst hQ
    rfl
  refine ⟨trivial, ⟨⟨_, _, by rw [hfl']; exact hrg'⟩, hcalm, hok, h.rn, h.err, by have := h.ep; simp only; omega, fun j hj => ?_, by have := h.next; simp only; omega, by have := h.gen; simp only; omega, by rw [hQ]; exact Nat.zero_le _⟩, ?_, ?_⟩
  · have hj : j < 2 + l.n := by omega
    rcases hlow j hj with e | e
    · rw [e, ends_seal (headPc_ok hr.fit.epoch (by have := h.gen; simp only; omega))]
      have := h.ep
      simp only [headPc]
      omega
    · rw [e, flush_gets h.calm h.dok]
      have := h.ends j (by omega)
      omega
  · rw [← h.homes]
    unfold homesB
    have hh : ({ l with gen := l.gen + 1, tail := l.next, H := fun _ => none } : Lg).homes d' = l.homes d.flush := by unfold Lg.homes; rw [hL]
    rw [hh]
    refine List.map_congr_left fun k hk => ?_
    have := hho k (List.mem_range.1 hk)
    rw [← this]
    rfl
  · show l.n - (l.next - l.next) = n
    rw [hn]
    omega
theorem clive_sync (h : CLive n i l d) : l.sync d = (l, d.flush) ∧ CLive n i l d.flush ∧ homesB l d.flush = homesB l d := by
  have hcf : Dsk.calm d.flush := by rw [h.calm.flush]; exact ⟨h.calm.fuse, h.calm.on⟩
  have hff : d.flush.flush = d.flush := by
    have h1 := hcf.flush
    rw [h1]
    rw [h.calm.flush]
    rfl
  refine ⟨sync_calm h.calm h.err, ⟨by rw [hff]; exact h.rg, hcf, h.dok.flush, h.rn, h.err, h.ep, fun j hj => ?_, h.next, h.gen, ?_⟩, h.homes⟩
  · rw [flush_gets h.calm h.dok]
    exact h.ends j hj
  · rw [h.calm.flush]
    exact Nat.zero_le _
end
theorem calm_newD (n : Nat) : Dsk.calm (newD n) := ⟨rfl, rfl⟩
theorem clive_init {n size : Nat} (h1 : 2 ≤ n) (h2 : n + 4 ≤ size) (h3 : size ≤ 4096) : CLive n 0 (log0 n 1 0 0) (newD size) := by
  have hok := newD_ok (n := size) (by omega) (by omega)
  have hL : (newD size).L.length = size := by simp [newD]
  have hfl : (newD size).flush = newD size := by
    rw [(calm_newD _).flush]
    rfl
  refine ⟨⟨1, [], ?_⟩, calm_newD _, hok, rfl, rfl, Nat.le_refl _, ?_, Nat.zero_le _, Nat.zero_le _, Nat.zero_le _⟩
  · rw [hfl]
    refine ⟨(log0_fit (by omega) (by omega) (by decide) (by decide)), hok, ⟨.inr ⟨head_zero (by omega), rfl, rfl, rfl⟩, trivial, (fun q hq => by cases hq), Nat.le_add_right _ _, Nat.le_refl _, .inl rfl, fun c q c1 c2 hq => ?_⟩, rfl, trivial, rfl, rfl⟩
    have c2 : c < 0 + n := c2
    have hq : pieceB (newD size) n c = some q := hq
    show q.ep < 1
    have hm := Nat.mod_lt c (show 0 < n by omega)
    unfold pieceB at hq
    rw [newd_get (by omega), unseal_zero] at hq
    simp only at hq
    split at hq
    · cases hq
      decide
    · cases hq
  · intro i hi
    rw [newd_get (by omega), ends_zero]
    exact ⟨Nat.zero_le _, Nat.zero_le _⟩
end Go.Proofs.YtldimgchpgoggaaGreat

/- Blocks that are kept: what the homes say; a disk without a fuse: plain. -/
namespace Go.Proofs.YtldimgchpgoggaaGreat
open Go.RowKit Go.Tn Go.Tn.Bt Go.Tn.Lp Go.Tn.Dk Go.Tn.Ino Go.Tn.Slo Go.Tn.Ck Go.Tn.Pc
/-- The homes say what is kept. -/
structure Shows (hs : List (List Nat)) (L : List Slt) (num : Nat) : Prop where
  len : L.length + 1 ≤ hs.length
  num : hs[0]? = some (numSec num)
  at_ : ∀ (i : Nat) (x : Slt), L[i]? = some x → hs[1 + i]? = some x.sec
theorem Shows.set {hs : List (List Nat)} {L : List Slt} {num : Nat} (h : Shows hs L num) {i : Nat} (hi : i < L.length) (x : Slt) : Shows (hs.set (1 + i) x.sec) (L.set i x) num := by
  refine ⟨by rw [List.length_set, List.length_set]; exact h.len, ?_, fun j y hj => ?_⟩
  · rw [List.getElem?_set, if_neg (by omega)]
    exact h.num
  · rw [List.getElem?_set] at hj ⊢
    by_cases hij : i = j
    · subst hij
      rw [if_pos rfl, if_pos hi] at hj
      cases hj
      rw [if_pos rfl, if_pos (by have := h.len; omega)]
    · rw [if_neg hij] at hj
      rw [if_neg (by omega)]
      exact h.at_ j y hj
theorem Shows.renum {hs : List (List Nat)} {L : List Slt} {num : Nat} (h : Shows hs L num) (x : Nat) : Shows (hs.set 0 (numSec x)) L x := by
  refine ⟨by rw [List.length_set]; exact h.len, ?_, fun j y hj => ?_⟩
  · rw [List.getElem?_set, if_pos rfl, if_pos (by have := h.len; omega)]
  · rw [List.getElem?_set, if_neg (by omega)]
    exact h.at_ j y hj
theorem overB_cons (hs : List (List Nat)) (p : Pt) (ps : List Pt) {k : Nat} (h1 : p.1 = (k : Int)) (hk : k < hs.length) : overB hs (p :: ps) = overB (hs.set k p.2) ps := by
  unfold overB
  rw [List.foldl_cons, if_pos (by omega), h1]
  rfl
theorem Shows.turns (T : Slt → Slt) : ∀ (is : List Nat) (hs : List (List Nat)) (c : PC) (num : Nat), Shows hs c.L num → (∀ i ∈ is, i < c.L.length) → is.Nodup → Shows (overB hs (is.map fun i => slotPut i (T (c.at_ i)))) (c.turns is T).L num
  | [], hs, c, num, h, _, _ => h
  | i :: is, hs, c, num, h, hl, hn => by
    have hi := hl i (by simp)
    have hn' := List.nodup_cons.1 hn
    have e : c.turns (i :: is) T = (c.lay i (T (c.at_ i))).turns is T := rfl
    rw [e, List.map_cons, overB_cons hs _ _ (k := 1 + i) (by show (1 + (i : Int)) = _; omega) (by have := h.len; omega)]
    have hm : (is.map fun j => slotPut j (T (c.at_ j))) = is.map fun j => slotPut j (T ((c.lay i (T (c.at_ i))).at_ j)) := List.map_congr_left fun j hj => by
      rw [lay_at' c i _ j (fun e => hn'.1 (by rw [← e]; exact hj))]
    rw [hm]
    refine Shows.turns T is _ _ num ?_ (fun j hj => by rw [lay_len]; exact hl j (by simp [hj])) hn'.2
    rw [lay_L]
    exact h.set hi _
theorem slots_trans {is : List Nat} {X : Nat → Slt} {homes : Nat} (h1 : 1 ≤ is.length) (h2 : is.length ≤ 16) (hl : ∀ i ∈ is, 1 + i < homes) (hx : ∀ i ∈ is, (X i).is) (hn : is.Nodup) :
    transB (is.map fun i => slotPut i (X i)) homes = true ∧ cutN (recB (is.map fun i => slotPut i (X i))) ≤ 20 := by
  have hl128 : ∀ p ∈ is.map fun i => slotPut i (X i), p.2.length = 128 := fun p hp => by
    obtain ⟨i, hi, rfl⟩ := List.mem_map.1 hp
    exact Slt.sec_len (hx i hi)
  constructor
  · refine (transB_iff _ _).2 ⟨by rw [List.length_map]; exact h1, by rw [List.length_map]; omega, fun p hp => ?_, ?_⟩
    · have h128 := hl128 p hp
      obtain ⟨i, hi, rfl⟩ := List.mem_map.1 hp
      refine ⟨?_, ?_, h128⟩
      · show (0 : Int) ≤ 1 + (i : Int)
        omega
      · have := hl i hi
        show (1 : Int) + (i : Int) < _
        omega
    · rw [List.map_map]
      refine List.pairwise_map.2 (hn.imp fun {a b} hab e => hab ?_)
      have e : (1 : Int) + (a : Int) = 1 + (b : Int) := e
      omega
  · have := recB_len hl128
    rw [List.length_map] at this
    unfold cutN
    omega
theorem num_trans {x homes : Nat} (h : 1 ≤ homes) : transB [((0 : Int), numSec x)] homes = true ∧ cutN (recB [((0 : Int), numSec x)]) ≤ 20 := by
  have hl128 : ∀ p ∈ [((0 : Int), numSec x)], p.2.length = 128 := fun p hp => by
    rw [List.mem_singleton.1 hp]
    exact numSec_len x
  constructor
  · refine (transB_iff _ _).2 ⟨by simp, by simp, fun p hp => ?_, by simp⟩
    have h128 := hl128 p hp
    rw [List.mem_singleton.1 hp] at h128 ⊢
    exact ⟨Int.le_refl _, by show (0 : Int) < _; omega, h128⟩
  · have := recB_len hl128
    rw [List.length_singleton] at this
    unfold cutN
    omega
/-! ### A disk without a fuse -/
section
variable {n i j : Nat} {l : Lg} {d : Dsk}
theorem CLive.toFit (h : CLive n i l d) (hi : i ≤ 900) : Fit l d := ⟨h.ok (by omega), fun ps h8 h0 => (clive_check h (by omega)).2.1.ok (by omega), by have := h.q; omega⟩
/-- Homes are written, behind a checkpoint where the ring is full. -/
theorem clive_stWr (h : CLive n i l d) (hi : i ≤ 900) {ps : List Pt} (hb : ∀ p ∈ ps, ∀ x ∈ p.2, x < 256) (ht : transB ps (l.homes d) = true) (hN : cutN (recB ps) ≤ n) :
    ∃ l' d', stWr l d ps = (l', d', 0) ∧ CLive n (i + 2) l' d' ∧ homesB l' d' = overB (homesB l d) ps := by
  by_cases hf : cutN (recB ps) ≤ l.free
  · obtain ⟨w0, w1, w2⟩ := clive_write h (by omega) hb ht hf
    refine ⟨(l.write d ps).1, (l.write d ps).2.1, ?_, w1.mono (by omega), w2⟩
    unfold stWr
    rw [if_pos (by rw [w0]; simp), ← w0]
  · have hep := h.ep
    have hnx := h.next
    have hc := cut_ok (ep := l.epoch) (ct := l.next) ht (by omega) (by omega)
    have hw8 := write_full h.err ht hc (d := d) (by rw [cutL_len]; omega)
    obtain ⟨c0, c1, c2, c3⟩ := clive_check h (by omega)
    have hch : (l.check d).1.homes (l.check d).2.1 = l.homes d := by
      have := congrArg List.length c2
      rwa [homesB_len, homesB_len] at this
    obtain ⟨w0, w1, w2⟩ := clive_write c1 (by omega) hb (by rw [hch]; exact ht) (by rw [c3]; exact hN)
    refine ⟨((l.check d).1.write (l.check d).2.1 ps).1, ((l.check d).1.write (l.check d).2.1 ps).2.1, ?_, w1, by rw [w2, c2]⟩
    unfold stWr
    rw [if_neg (by rw [hw8]; simp), if_neg (by rw [c0]; simp), ← w0]
end
/-- What a cache keeps, where there is no fuse. -/
structure PInv (i : Nat) (l : Lg) (d : Dsk) (P : PC) : Prop where
  live : CLive 20 i l d
  shows : Shows (homesB l d) P.L P.num
  ok : P.Ok
  hand : P.R.hand < P.R.L.length
  slots : P.L.length ≤ 12
  num : P.num ≤ 1099511627775
section
variable {i j : Nat} {l : Lg} {d : Dsk} {P : PC}
theorem PInv.mono (h : PInv i l d P) (hij : i ≤ j) : PInv j l d P := ⟨h.live.mono hij, h.shows, h.ok, h.hand, h.slots, h.num⟩
theorem PInv.fit (h : PInv i l d P) (hi : i ≤ 900) : Fit l d := h.live.toFit hi
theorem PInv.homes (h : PInv i l d P) : P.L.length + 1 ≤ l.homes d := by have := h.shows.len; rwa [homesB_len] at this
theorem PInv.ring (h : PInv i l d P) {r : Rn} (h1 : ({ P with R := r } : PC).Ok) (h2 : r.hand < r.L.length) : PInv i l d { P with R := r } := ⟨h.live, h.shows, h1, h2, h.slots, h.num⟩
theorem PInv.stWr (h : PInv i l d P) (hi : i ≤ 900) {is : List Nat} {X : Nat → Slt} (h1 : 1 ≤ is.length) (hl : ∀ i ∈ is, i < P.L.length) (hx : ∀ i ∈ is, (X i).is) (hn : is.Nodup) :
    ∃ l' d', stWr l d (is.map fun i => slotPut i (X i)) = (l', d', 0) ∧ CLive 20 (i + 2) l' d' ∧ homesB l' d' = overB (homesB l d) (is.map fun i => slotPut i (X i)) := by
  have hlen : is.length ≤ 16 := by
    have h2 := nodup_len hn (List.nodup_range (n := P.L.length)) fun i hi => List.mem_range.2 (hl i hi)
    rw [List.length_range] at h2
    have := h.slots
    omega
  have hho := h.homes
  obtain ⟨t1, t2⟩ := slots_trans (homes := l.homes d) h1 hlen (fun i hi => by have := hl i hi; omega) hx hn
  refine clive_stWr h.live hi (fun p hp x hxx => ?_) t1 t2
  obtain ⟨k, _, rfl⟩ := List.mem_map.1 hp
  exact Slt.sec_lt _ x hxx
/-- Slots are turned. -/
theorem PInv.turn (h : PInv i l d P) (hi : i ≤ 900) {is : List Nat} {T : Slt → Slt} (hg : ∀ i ∈ is, i < P.L.length ∧ SGood (P.at_ i) (T (P.at_ i))) (hn : is.Nodup) : ∃ l' d', P.turnD l d is T = (P.turns is T, (l', d', 0)) ∧ PInv (i + 2) l' d' (P.turns is T) := by
  by_cases h0 : is = []
  · subst h0
    refine ⟨l, d, ?_, h.mono (by omega)⟩
    unfold PC.turnD
    rw [if_pos rfl]
    rfl
  · obtain ⟨l', d', e1, e2, e3⟩ := h.stWr hi (X := fun i => T (P.at_ i)) (List.length_pos_iff.2 h0) (fun i hi => (hg i hi).1) (fun i hi => (hg i hi).2.1) hn
    refine ⟨l', d', ?_, ⟨e2, ?_, turns_ok T is P h.ok hg hn, ?_, by rw [turns_len]; exact h.slots, by rw [turns_num]; exact h.num⟩⟩
    · unfold PC.turnD
      rw [if_neg h0, e1, if_pos rfl]
    · rw [e3, turns_num]
      exact Shows.turns T is _ P P.num h.shows (fun i hi => (hg i hi).1) hn
    · rw [turns_hand, (turns_ok T is P h.ok hg hn).len, turns_len, ← h.ok.len]
      exact h.hand
theorem PInv.map (h : PInv i l d P) (hi : i ≤ 900) {q : Slt → Bool} {is : List Nat} (hby : ByBlk P q is) {T : Slt → Slt} (hg : ∀ i ∈ is, i < P.L.length ∧ SGood (P.at_ i) (T (P.at_ i))) : ∃ l' d', P.turnD l d is T = (P.map q T, (l', d', 0)) ∧ PInv (i + 2) l' d' (P.map q T) := by
  rw [← map_of (T := T) hby]
  exact h.turn hi hg hby.nodup
theorem PInv.put (h : PInv i l d P) (hi : i ≤ 900) (x : Slt) : ∃ l' d', P.putD l d x = ((P.put x).1, (l', d', (P.put x).2)) ∧ PInv (i + 2) l' d' (P.put x).1 := by
  have hpl := place_ok h.ok h.hand x.blk
  have hok := put_ok h.ok h.hand x
  by_cases hx : x.is ∧ x ≠ Slt.no
  · by_cases h0 : (P.place x.blk).2.2 = 0
    · obtain ⟨p1, p2⟩ := place_set h.ok h.hand hx.1 h0
      have e1 : P.put x = ((P.place x.blk).1.set (P.place x.blk).2.1 x, 0) := by
        unfold PC.put
        rw [if_neg (fun e => e hx), if_neg (fun e => e h0)]
      have e2 : P.putD l d x = putAt (P.place x.blk).1 l d (P.place x.blk).2.1 x := by
        unfold PC.putD
        rw [if_neg (fun e => e hx), if_neg (fun e => e h0)]
      rw [hpl.2.1] at p1
      obtain ⟨l', d', s1, s2, s3⟩ := h.stWr hi (is := [(P.place x.blk).2.1]) (X := fun _ => x) (Nat.le_refl _) (fun i hi => by rw [List.mem_singleton.1 hi]; exact p1) (fun _ _ => hx.1) (by simp)
      simp only [List.map_cons, List.map_nil] at s1 s3
      rw [e1] at hok ⊢
      refine ⟨l', d', ?_, ⟨s2, ?_, hok.1, ?_, ?_, ?_⟩⟩
      · rw [e2]
        unfold putAt
        rw [s1, if_pos rfl]
      · have hn : (((P.place x.blk).1.set (P.place x.blk).2.1 x, 0) : PC × Nat).1.num = P.num := hok.2.2.1
        show Shows _ ((P.place x.blk).1.L.set _ x) _
        rw [hn, s3, hpl.2.1, overB_cons _ _ _ (k := 1 + (P.place x.blk).2.1) (by show (1 + ((P.place x.blk).2.1 : Int)) = _; omega) (by have := h.shows.len; omega)]
        exact h.shows.set p1 x
      · rw [hok.1.len, hok.2.1, ← h.ok.len]
        exact hok.2.2.2
      · rw [hok.2.1]; exact h.slots
      · rw [hok.2.2.1]; exact h.num
    · have e1 : P.put x = ((P.place x.blk).1, (P.place x.blk).2.2) := by
        unfold PC.put
        rw [if_neg (fun e => e hx), if_pos h0]
      have e2 : P.putD l d x = ((P.place x.blk).1, (l, d, (P.place x.blk).2.2)) := by
        unfold PC.putD
        rw [if_neg (fun e => e hx), if_pos h0]
      refine ⟨l, d, by rw [e1, e2], ?_⟩
      rw [e1]
      rcases hpl.2.2.2.2.2 with ⟨-, e, -⟩ | ⟨e, -⟩
      · rw [e]
        exact h.mono (by omega)
      · exact absurd e h0
  · have e1 : P.put x = (P, 2) := by
      unfold PC.put
      rw [if_pos hx]
    have e2 : P.putD l d x = (P, (l, d, 2)) := by
      unfold PC.putD
      rw [if_pos hx]
    refine ⟨l, d, by rw [e1, e2], ?_⟩
    rw [e1]
    exact h.mono (by omega)
/-- A block is kept no longer, in memory alone. -/
def PC.drop (c : PC) (b : Blk) : PC × Nat := match c.find b with
  | none => (c, 11)
  | some i => (c.set i Slt.no, 0)
theorem PInv.drop (h : PInv i l d P) (hi : i ≤ 900) (b : Blk) : ∃ l' d', P.dropD l d b = ((PC.drop P b).1, (l', d', (PC.drop P b).2)) ∧ PInv (i + 2) l' d' (PC.drop P b).1 := by
  unfold PC.dropD PC.drop
  cases hf : P.find b with
  | none => exact ⟨l, d, rfl, h.mono (by omega)⟩
  | some k =>
    obtain ⟨h1, -, -⟩ := (find_some h.ok).1 hf
    obtain ⟨l', d', e1, e2⟩ := h.turn hi (is := [k]) (T := tNo) (fun j hj => by rw [List.mem_singleton.1 hj]; exact ⟨h1, good_no _⟩) (by simp)
    have e : P.turns [k] tNo = P.set k Slt.no := by
      show P.lay k Slt.no = _
      unfold PC.lay
      rw [if_pos rfl]
    rw [e] at e1 e2
    exact ⟨l', d', e1, e2⟩
theorem PInv.sync (h : PInv i l d P) : cSync l d = (l, d.flush, 0) ∧ PInv i l d.flush P := by
  obtain ⟨s1, s2, s3⟩ := clive_sync h.live
  refine ⟨?_, ⟨s2, by rw [s3]; exact h.shows, h.ok, h.hand, h.slots, h.num⟩⟩
  unfold cSync
  rw [s1]
  simp only [h.live.err]
theorem PInv.setNum (h : PInv i l d P) (hi : i ≤ 900) {x : Nat} (hx : x ≤ 1099511627775) : ∃ l' d', P.setNumD l d x = ({ P with num := x }, (l', d', 0)) ∧ PInv (i + 2) l' d' { P with num := x } := by
  obtain ⟨t1, t2⟩ := num_trans (x := x) (homes := l.homes d) (by have := h.homes; omega)
  obtain ⟨l', d', e1, e2, e3⟩ := clive_stWr h.live hi (fun p hp y hy => by rw [List.mem_singleton.1 hp] at hy; exact numSec_lt x y hy) t1 t2
  have hI : PInv (i + 2) l' d' { P with num := x } := by
    refine ⟨e2, ?_, ⟨h.ok.len, h.ok.is, h.ok.uniq, h.ok.used⟩, h.hand, h.slots, hx⟩
    rw [e3, overB_cons _ _ _ (k := 0) rfl (by have := h.shows.len; omega)]
    exact h.shows.renum x
  obtain ⟨s1, s2⟩ := hI.sync
  refine ⟨l', d'.flush, ?_, s2⟩
  unfold PC.setNumD
  rw [e1]
  simp only
  rw [s1]
  simp
/-- Touched alone. -/
theorem PInv.get (h : PInv i l d P) (b : Blk) : PInv i l d (P.get b).1 := by
  have hok := h.ok.get b
  unfold PC.get at hok ⊢
  cases hf : P.find b with
  | none => exact h
  | some k =>
    rw [hf] at hok
    refine h.ring hok ?_
    have e : (P.R.touch k).hand = P.R.hand := by
      unfold Rn.touch
      split <;> rfl
    rw [e, touch_len]
    exact h.hand
theorem shows_home {l : Lg} {d : Dsk} {L : List Slt} {num : Nat} (h : Shows (homesB l d) L num) : l.home d 0 = numSec num ∧ ∀ i, i < L.length → l.home d (1 + i) = ((L[i]?).getD Slt.no).sec := by
  have hg : ∀ k, k < l.homes d → (homesB l d)[k]? = some (l.home d k) := fun k hk => by
    unfold homesB
    rw [List.getElem?_map, List.getElem?_range hk]
    rfl
  have hl := h.len
  rw [homesB_len] at hl
  refine ⟨?_, fun i hi => ?_⟩
  · have := h.num
    rw [hg 0 (by omega)] at this
    exact Option.some.inj this
  · have := h.at_ i _ (List.getElem?_eq_getElem hi)
    rw [hg (1 + i) (by omega)] at this
    rw [List.getElem?_eq_getElem hi]
    exact Option.some.inj this
/-- A new disk shows nothing. -/
theorem shows_new {n k slots : Nat} (h : slots + n + 3 ≤ k) : Shows (homesB (log0 n 1 0 0) (newD k)) (List.replicate slots Slt.no) 0 := by
  have hho : (log0 n 1 0 0).homes (newD k) = k - 2 - n := by
    unfold Lg.homes
    simp [newD, log0]
  have hg : ∀ j, j < k - 2 - n → (homesB (log0 n 1 0 0) (newD k))[j]? = some zeroS := fun j hj => by
    unfold homesB
    rw [hho, List.getElem?_map, List.getElem?_range hj]
    show some ((newD k).get (2 + n + j)) = _
    rw [newd_get (by omega)]
  refine ⟨by rw [homesB_len, hho, List.length_replicate]; omega, ?_, fun j x hj => ?_⟩
  · rw [hg 0 (by omega)]
    congr 1
  · have hjl := (List.getElem?_eq_some_iff.1 hj).1
    rw [List.length_replicate] at hjl
    rw [List.getElem?_replicate, if_pos hjl] at hj
    cases hj
    rw [hg (1 + j) (by omega), no_sec]
    rfl
theorem pinv_new {slots k : Nat} (h1 : 1 ≤ slots) (h2 : slots ≤ 12) (h3 : slots + 23 ≤ k) (h4 : 24 ≤ k) (h5 : k ≤ 4096) : PInv 0 (log0 20 1 0 0) (newD k) (PC.new slots 0) := by
  refine ⟨clive_init (by decide) (by omega) h5, ?_, new_ok _ _, ?_, by simp [PC.new]; exact h2, Nat.zero_le _⟩
  · exact shows_new (by omega)
  · simp [PC.new]
    omega
theorem opened_new0 (n : Nat) : ∀ k, PC.opened (List.replicate n Slt.no) 0 k = PC.new n 0
  | 0 => by unfold PC.opened; simp
  | k + 1 => by
    rw [opened_succ, opened_new0 n k]
    have e : ((List.replicate n Slt.no)[k]?).getD Slt.no = Slt.no := by
      rw [List.getElem?_replicate]
      split <;> rfl
    rw [e]
    refine pc_ext ?_ ?_ rfl
    · show (List.replicate n Slt.no).set k Slt.no = List.replicate n Slt.no
      apply List.ext_getElem?
      intro j
      rw [List.getElem?_set, List.getElem?_replicate]
      split
      · rename_i hj
        subst hj
        rw [List.length_replicate]
      · rfl
    · show ringSet ⟨List.replicate n Pl.no, 0⟩ k Slt.no = ⟨List.replicate n Pl.no, 0⟩
      unfold ringSet Rn.drop Rn.put
      rw [if_pos rfl]
      simp only
      congr 1
      apply List.ext_getElem?
      intro j
      rw [List.getElem?_set, List.getElem?_replicate]
      split
      · rename_i hj
        subst hj
        rw [List.length_replicate]
      · rfl
theorem opened_new (n : Nat) : PC.opened (List.replicate n Slt.no) 0 n = PC.new n 0 := opened_new0 n n
end
end Go.Proofs.YtldimgchpgoggaaGreat

/- Blocks that are kept: calls where there is no fuse. -/
namespace Go.Proofs.YtldimgchpgoggaaGreat
open Go.RowKit Go.Tn Go.Tn.Bt Go.Tn.Lp Go.Tn.Dk Go.Tn.Ino Go.Tn.Slo Go.Tn.Ck Go.Tn.Pc
/-- Where a cache stands: all made since w0, its blocks among G. -/
structure PSt (w0 : World) (I : Lg → Dsk → Prop) (c p : Nat) (P : PC) (G : Nat → Prop) (wi : World) : Prop where
  ex : ∃ A F FD l d, A.c = c ∧ A.p = p ∧ CAt wi F FD A l d P ∧ I l d ∧ ∀ b, A.all F FD b → G b
  lo : ∀ b, G b → w0.heap.size ≤ b
  hi : ∀ b, G b → b < wi.heap.size
  w : Below w0.heap.size w0 wi
/-- What a call leaves: the cache anew; what is not the cache's stays. -/
def PTo (w0 : World) (I : Lg → Dsk → Prop) (c p : Nat) (P : PC) (G : Nat → Prop) (w w' : World) : Prop := ∃ G', PSt w0 I c p P G' w' ∧ Mod G w w' ∧ ∀ b, G' b → G b ∨ w.heap.size ≤ b
section
variable {w0 w w' w'' : World} {F FD G : Nat → Prop} {A : CA} {l l' : Lg} {d d' : Dsk} {P P' : PC} {I I' : Lg → Dsk → Prop} {c p i cd : Nat}
theorem PSt.below (h : PSt w0 I c p P G w) (hb : Below w.heap.size w w') : PSt w0 I c p P G w' := by
  obtain ⟨⟨A, F, FD, l, d, h1, h2, h3, h4, h5⟩, h6, h7, h8⟩ := h
  exact ⟨⟨A, F, FD, l, d, h1, h2, h3.below hb, h4, h5⟩, h6, fun b hb' => Nat.lt_of_lt_of_le (h7 b hb') hb.size, h8.trans (hb.mono h8.size)⟩
theorem PSt.imp (h : PSt w0 I c p P G w) (hI : ∀ l d, I l d → I' l d) : PSt w0 I' c p P G w := by
  obtain ⟨⟨A, F, FD, l, d, h1, h2, h3, h4, h5⟩, h6, h7, h8⟩ := h
  exact ⟨⟨A, F, FD, l, d, h1, h2, h3, hI _ _ h4, h5⟩, h6, h7, h8⟩
theorem PSt.here (h : PSt w0 I c p P G w) : PTo w0 I c p P G w w := ⟨G, h, Mod.refl _ _, fun _ h => .inl h⟩
/-- A block of another's. -/
theorem PTo.box (h : PTo w0 I c p P G w w') {x : Nat} {o : Obj} (hx : w.heap[x]? = some o) (hn : ¬ G x) : w'.heap[x]? = some o := by
  obtain ⟨G', -, hm, -⟩ := h
  exact hm.heap hx hn
theorem PTo.st (h : PTo w0 I c p P G w w') : ∃ G', PSt w0 I c p P G' w' ∧ (∀ x, x < w.heap.size → ¬ G x → ¬ G' x) ∧ w.heap.size ≤ w'.heap.size ∧ Mod G w w' := by
  obtain ⟨G', h1, hm, h2⟩ := h
  exact ⟨G', h1, fun x hx hn hg => (h2 x hg).elim hn fun h => absurd hx (Nat.not_lt.2 h), hm.size, hm⟩
theorem st_of (hw : Below w0.heap.size w0 w) (hG : ∀ b, A.all F FD b → G b) (hlo : ∀ b, G b → w0.heap.size ≤ b) (hhi : ∀ b, G b → b < w.heap.size) (hst : CSt w F FD A (P', (l', d', cd)) w') (hI : I l' d') : PTo w0 I A.c A.p P' G w w' := by
  obtain ⟨F', FD', k1, k2, k3, k4⟩ := hst
  have hs := hw.size
  have hmG : Mod G w w' := k2.mono fun b _ h => hG b h
  refine ⟨fun b => A.all F' FD' b, ⟨⟨A, F', FD', l', d', rfl, rfl, k1, hI, fun _ h => h⟩, fun b hb => ?_, fun b hb => k1.lt b hb, hw.trans (hmG.below hw.size fun b hb hs => absurd (hlo b hs) (Nat.not_le.2 hb))⟩, hmG, fun b hb => ?_⟩
  · rcases hb with hb | hb | hb
    · exact hlo b (hG b (.inl hb))
    · rcases k3 b hb with h | h
      · exact hlo b (hG b (.inr (.inl h)))
      · omega
    · rcases k4 b hb with h | h
      · exact hlo b (hG b (.inr (.inr h)))
      · omega
  · rcases hb with hb | hb | hb
    · exact .inl (hG b (.inl hb))
    · rcases k3 b hb with h | h
      · exact .inl (hG b (.inr (.inl h)))
      · exact .inr h
    · rcases k4 b hb with h | h
      · exact .inl (hG b (.inr (.inr h)))
      · exact .inr h
/-- Get, whatever is known of the disk. -/
theorem PSt.get (h : PSt w0 I c p P G w) (b : Blk) : Calls Tryz.prog 11 #[.pointer (some ⟨c, 0, none⟩), .agg (blC b)] w fun e w' => e = .returned (.tuple #[.agg (slC (P.get b).2.1), .bool (P.get b).2.2]) ∧ PTo w0 I c p (P.get b).1 G w w' := by
  obtain ⟨⟨A, F, FD, l, d, rfl, rfl, h3, h4, h5⟩, h6, h7, h8⟩ := h
  refine (pget_any h3 b).mono ?_
  rintro e w' ⟨he, hC, hm⟩
  exact ⟨he, st_of h8 h5 h6 h7 (cd := 0) ⟨F, FD, hC, hm.mono fun _ _ h => .inl h, fun _ h => .inl h, fun _ h => .inl h⟩ h4⟩
theorem PSt.all (h : PSt w0 I c p P G w) : Calls Tryz.prog 14 #[.pointer (some ⟨c, 0, none⟩)] w fun e w' => SomeR w P qAll e w' := by
  obtain ⟨⟨A, F, FD, l, d, rfl, rfl, h3, -⟩, -⟩ := h
  exact pall_any h3
theorem PSt.dirty (h : PSt w0 I c p P G w) : Calls Tryz.prog 12 #[.pointer (some ⟨c, 0, none⟩)] w fun e w' => SomeR w P qDirty e w' := by
  obtain ⟨⟨A, F, FD, l, d, rfl, rfl, h3, -⟩, -⟩ := h
  exact pdirty_any h3
theorem PSt.of (h : PSt w0 I c p P G w) (f : Int × Int) : Calls Tryz.prog 25 #[.pointer (some ⟨c, 0, none⟩), .agg #[.int .i64 f.1, .int .i64 f.2]] w fun e w' => SomeR w P (qFile f) e w' := by
  obtain ⟨⟨A, F, FD, l, d, rfl, rfl, h3, -⟩, -⟩ := h
  exact pof_any h3 f
theorem PSt.number (h : PSt w0 I c p P G w) : Calls Tryz.prog 35 #[.pointer (some ⟨c, 0, none⟩)] w fun e w' => e = .returned (.int .u64 (P.num : Nat)) ∧ w' = w := by
  obtain ⟨⟨A, F, FD, l, d, rfl, rfl, h3, -⟩, -⟩ := h
  exact pnumber_any h3
/-- A cache on a disk without a fuse. -/
abbrev PQ (w0 : World) (i c p : Nat) (P : PC) (G : Nat → Prop) (wi : World) : Prop := PSt w0 (fun l d => PInv i l d P) c p P G wi
abbrev PQT (w0 : World) (i c p : Nat) (P : PC) (G : Nat → Prop) (w w' : World) : Prop := PTo w0 (fun l d => PInv i l d P) c p P G w w'
theorem PTo.imp (h : PTo w0 I c p P G w w') (hI : ∀ l d, I l d → I' l d) : PTo w0 I' c p P G w w' := by
  obtain ⟨G', h1, h2⟩ := h
  exact ⟨G', h1.imp hI, h2⟩
theorem PSt.ok (h : PSt w0 I c p P G w) : P.Ok ∧ P.R.hand < P.R.L.length := by
  obtain ⟨⟨A, F, FD, l, d, rfl, rfl, h3, -⟩, -⟩ := h
  exact ⟨h3.ok, h3.ring.hand⟩
theorem PSt.getQ (h : PQ w0 i c p P G w) (b : Blk) : Calls Tryz.prog 11 #[.pointer (some ⟨c, 0, none⟩), .agg (blC b)] w fun e w' => e = .returned (.tuple #[.agg (slC (P.get b).2.1), .bool (P.get b).2.2]) ∧ PQT w0 i c p (P.get b).1 G w w' :=
  (PSt.get h b).mono fun _ _ ⟨h1, h2⟩ => ⟨h1, h2.imp fun _ _ h => h.get b⟩
theorem PSt.putQ (h : PQ w0 i c p P G w) (hi : i ≤ 900) (x : Slt) (h64 : Slt.w64 x) (hmx : x.data.size ≤ maxLen) : Calls Tryz.prog 29 #[.pointer (some ⟨c, 0, none⟩), .agg (slC x)] w fun e w' => e = .returned (.int .i64 ((P.put x).2 : Nat)) ∧ PQT w0 (i + 2) c p (P.put x).1 G w w' := by
  obtain ⟨⟨A, F, FD, l, d, rfl, rfl, h3, h4, h5⟩, h6, h7, h8⟩ := h
  obtain ⟨l', d', e1, e2⟩ := h4.put hi x
  refine (pput_any h3 (h4.fit hi) x h64 hmx).mono ?_
  rintro e w' ⟨he, hst⟩
  rw [e1] at he hst
  exact ⟨he, st_of h8 h5 h6 h7 hst e2⟩
theorem PSt.dropQ (h : PQ w0 i c p P G w) (hi : i ≤ 900) (b : Blk) : Calls Tryz.prog 30 #[.pointer (some ⟨c, 0, none⟩), .agg (blC b)] w fun e w' => e = .returned (.int .i64 ((PC.drop P b).2 : Nat)) ∧ PQT w0 (i + 2) c p (PC.drop P b).1 G w w' := by
  obtain ⟨⟨A, F, FD, l, d, rfl, rfl, h3, h4, h5⟩, h6, h7, h8⟩ := h
  obtain ⟨l', d', e1, e2⟩ := h4.drop hi b
  refine (pdrop_any h3 (h4.fit hi) b).mono ?_
  rintro e w' ⟨he, hst⟩
  rw [e1] at he hst
  exact ⟨he, st_of h8 h5 h6 h7 hst e2⟩
theorem PSt.dropFileQ (h : PQ w0 i c p P G w) (hi : i ≤ 900) (f : Int × Int) : Calls Tryz.prog 31 #[.pointer (some ⟨c, 0, none⟩), .agg #[.int .i64 f.1, .int .i64 f.2]] w fun e w' => e = .returned (.int .i64 0) ∧ PQT w0 (i + 2) c p (P.map (qFile f) tNo) G w w' := by
  obtain ⟨⟨A, F, FD, l, d, rfl, rfl, h3, h4, h5⟩, h6, h7, h8⟩ := h
  refine (pdropFile_any h3 (h4.fit hi) f).mono ?_
  rintro e w' ⟨is, hby, he, hst⟩
  obtain ⟨l', d', e1, e2⟩ := h4.map hi hby (T := tNo) fun j hj => ⟨((hby.mem j).1 hj).1, good_no _⟩
  rw [e1] at he hst
  exact ⟨he, st_of h8 h5 h6 h7 hst e2⟩
theorem PSt.retagQ (h : PQ w0 i c p P G w) (hi : i ≤ 900) (f : Int × Int) (v : Nat) (hv : v ≤ 1099511627775) : Calls Tryz.prog 32 #[.pointer (some ⟨c, 0, none⟩), .agg #[.int .i64 f.1, .int .i64 f.2], .int .u64 (v : Nat)] w fun e w' => e = .returned (.int .i64 0) ∧ PQT w0 (i + 2) c p (P.map (qClean f) (tVer v)) G w w' := by
  obtain ⟨⟨A, F, FD, l, d, rfl, rfl, h3, h4, h5⟩, h6, h7, h8⟩ := h
  refine (pretag_any h3 (h4.fit hi) f v hv).mono ?_
  rintro e w' ⟨is, hby, he, hst⟩
  obtain ⟨l', d', e1, e2⟩ := h4.map hi hby (T := tVer v) fun j hj => by
    obtain ⟨k1, k2, k3⟩ := (hby.mem j).1 hj
    exact ⟨k1, good_ver (h4.ok.is _ (List.mem_of_getElem? (at_get k1))) k2 hv⟩
  rw [e1] at he hst
  exact ⟨he, st_of h8 h5 h6 h7 hst e2⟩
theorem PSt.retag_no (h : PSt w0 I c p P G w) (f : Int × Int) (v : Nat) (hv : ¬ v ≤ 1099511627775) (h64 : v < 18446744073709551616) : Calls Tryz.prog 32 #[.pointer (some ⟨c, 0, none⟩), .agg #[.int .i64 f.1, .int .i64 f.2], .int .u64 (v : Nat)] w fun e w' => e = .returned (.int .i64 2) ∧ Below w.heap.size w w' := by
  have hh := h
  obtain ⟨⟨A, F, FD, l, d, rfl, rfl, h3, h4, h5⟩, h6, h7, h8⟩ := h
  exact (pretag_arg h3 f v hv h64).mono fun e w' ⟨he, hb⟩ => ⟨he, hb⟩
theorem PSt.setNumberQ (h : PQ w0 i c p P G w) (hi : i ≤ 900) (x : Nat) (hx : x ≤ 1099511627775) : Calls Tryz.prog 33 #[.pointer (some ⟨c, 0, none⟩), .int .u64 (x : Nat)] w fun e w' => e = .returned (.int .i64 0) ∧ PQT w0 (i + 2) c p { P with num := x } G w w' := by
  obtain ⟨⟨A, F, FD, l, d, rfl, rfl, h3, h4, h5⟩, h6, h7, h8⟩ := h
  obtain ⟨l', d', e1, e2⟩ := h4.setNum hi hx
  refine (psetNumber_any h3 (h4.fit hi) x hx).mono ?_
  rintro e w' ⟨he, hst⟩
  rw [e1] at he hst
  exact ⟨he, st_of h8 h5 h6 h7 hst e2⟩
theorem PSt.setNumber_no (h : PSt w0 I c p P G w) (x : Nat) (hx : ¬ x ≤ 1099511627775) (h64 : x < 18446744073709551616) : Calls Tryz.prog 33 #[.pointer (some ⟨c, 0, none⟩), .int .u64 (x : Nat)] w fun e w' => e = .returned (.int .i64 2) ∧ w' = w := by
  obtain ⟨⟨A, F, FD, l, d, rfl, rfl, h3, -⟩, -⟩ := h
  exact psetNumber_arg h3 x hx h64
theorem PSt.syncQ (h : PQ w0 i c p P G w) : Calls Tryz.prog 34 #[.pointer (some ⟨c, 0, none⟩)] w fun e w' => e = .returned (.int .i64 0) ∧ PQT w0 i c p P G w w' := by
  obtain ⟨⟨A, F, FD, l, d, rfl, rfl, h3, h4, h5⟩, h6, h7, h8⟩ := h
  obtain ⟨e1, e2⟩ := h4.sync
  refine (psync_any h3).mono ?_
  rintro e w' hp
  have he := hp.1
  have hst := hp.st
  rw [e1] at he hst
  exact ⟨he, st_of h8 h5 h6 h7 hst e2⟩
/-- What is opened where nothing burns. -/
theorem popen_quiet {p : Nat} (hd : DAt w FD p d) (hFD : ∀ b, FD b → w0.heap.size ≤ b) (hw : Below w0.heap.size w0 w) (hI : PInv i l d P) (hl : openB d 20 = some l) (hf : newestB d 22 < 16777215) (hi : i ≤ 900) (h1 : 1 ≤ P.L.length) (hsz : P.L.length + 23 ≤ d.L.length) :
    Calls Tryz.prog 10 #[.pointer (some ⟨p, 0, none⟩), .int .i64 20, .int .i64 P.L.length] w fun e w' => ∃ c G, e = .returned (.tuple #[.pointer (some ⟨c, 0, none⟩), .int .i64 0]) ∧ PQ w0 i c p (PC.opened P.L P.num P.L.length) G w' ∧ Below w.heap.size w w' ∧ ∀ b, G b → FD b ∨ w.heap.size ≤ b := by
  obtain ⟨s1, s2⟩ := shows_home hI.shows
  have hop2 := popen_any hd 20 P.L P.num (by decide) (by decide) h1 (by have := hI.slots; omega) (by omega) hf hl (hI.live.ok (by omega)) hI.live.rn (Lays.of hI.ok) hI.num s1 s2
  refine hop2.mono ?_
  rintro e w' ⟨A, F, he, hC, hp, hb, hF, hown⟩
  have hI2 : PInv i l d (PC.opened P.L P.num P.L.length) := by
    refine ⟨hI.live, ?_, hC.ok, hC.ring.hand, ?_, ?_⟩
    · rw [opened_L, opened_num]
      exact hI.shows
    · rw [opened_len]
      exact hI.slots
    · rw [opened_num]
      exact hI.num
  refine ⟨A.c, fun b => A.all F FD b, he, ⟨⟨A, F, FD, l, d, rfl, hp, hC, hI2, fun _ h => h⟩, fun b hb => ?_, fun b hb => hC.lt b hb, hw.trans (hb.mono hw.size)⟩, hb, fun b hb => ?_⟩
  · have hs := hw.size
    rcases hb with hb | hb | hb
    · have := hown b hb; omega
    · have := hF b hb; omega
    · exact hFD b hb
  · rcases hb with hb | hb | hb
    · exact .inr (hown b hb)
    · exact .inr (hF b hb)
    · exact .inl hb
end
end Go.Proofs.YtldimgchpgoggaaGreat
