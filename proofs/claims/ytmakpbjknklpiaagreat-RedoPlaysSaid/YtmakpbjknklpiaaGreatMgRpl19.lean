/- Bytes, puts that a law is handed. -/
import Derived.Test.YtmakpbjknklpiaaGreatMgRpl18
import Derived.WalkKit
import Derived.ProofKit
import Derived.OpenShut
import Derived.ShutString
import Derived.ChangeOld
import Derived.Below
import Derived.Lib.SmallJoins
/- A disk's sectors as they are seen, as they last; chains in parts. Plain. -/
namespace Go.Tn.Dk
open Go.Tn Go.Tn.Bt Go.Tn.Lp
/-- What lasts of a disk. -/
def Dsk.last (d : Dsk) : Dsk := { d with Q := [] }
theorem last_get (d : Dsk) (i : Nat) : d.last.get i = d.L.getD i [] := rfl
theorem get_last (d : Dsk) (i : Nat) : d.get i = seenQ d.Q i (d.last.get i) := rfl
theorem laid_get : ∀ (Q : List (Nat × List Nat)) (L : List (List Nat)) (i : Nat), i < L.length → (laid Q L).getD i [] = seenQ Q i (L.getD i [])
  | [], _, _, _ => rfl
  | q :: Q, L, i, hi => by
    show (laid Q (L.set q.1 q.2)).getD i [] = seenQ Q i (if q.1 = i then q.2 else L.getD i [])
    rw [laid_get Q _ i (by rw [List.length_set]; exact hi)]
    congr 1
    rw [List.getD_eq_getElem?_getD, List.getElem?_set]
    split
    · rename_i h
      subst h
      rw [if_pos hi]
      rfl
    · rw [List.getD_eq_getElem?_getD]
theorem seen_no : ∀ (Q : List (Nat × List Nat)) (i : Nat) (s : List Nat), (∀ q ∈ Q, q.1 ≠ i) → seenQ Q i s = s
  | [], _, _, _ => rfl
  | q :: Q, i, s, h => by
    show seenQ Q i (if q.1 = i then q.2 else s) = s
    rw [if_neg (h q List.mem_cons_self), seen_no Q i s fun x hx => h x (List.mem_cons_of_mem _ hx)]
theorem seen_or : ∀ (Q : List (Nat × List Nat)) (i : Nat) (s : List Nat), seenQ Q i s = s ∨ ∃ q ∈ Q, q.1 = i ∧ seenQ Q i s = q.2
  | [], _, _ => .inl rfl
  | q :: Q, i, s => by
    show seenQ Q i (if q.1 = i then q.2 else s) = s ∨ ∃ x ∈ q :: Q, x.1 = i ∧ seenQ Q i (if q.1 = i then q.2 else s) = x.2
    rcases seen_or Q i (if q.1 = i then q.2 else s) with h | ⟨x, hx, h1, h2⟩
    · rw [h]
      split
      · exact .inr ⟨q, List.mem_cons_self, by assumption, rfl⟩
      · exact .inl rfl
    · exact .inr ⟨x, List.mem_cons_of_mem _ hx, h1, h2⟩
/-- A sector that is written at all is seen as one of the writes. -/
theorem seen_some : ∀ (Q : List (Nat × List Nat)) (i : Nat) (s : List Nat), (∃ q ∈ Q, q.1 = i) → ∃ q ∈ Q, q.1 = i ∧ seenQ Q i s = q.2
  | [], _, _, ⟨q, h, _⟩ => by cases h
  | q :: Q, i, s, h => by
    show ∃ x ∈ q :: Q, x.1 = i ∧ seenQ Q i (if q.1 = i then q.2 else s) = x.2
    by_cases hq : ∃ x ∈ Q, x.1 = i
    · obtain ⟨x, hx, h1, h2⟩ := seen_some Q i (if q.1 = i then q.2 else s) hq
      exact ⟨x, List.mem_cons_of_mem _ hx, h1, h2⟩
    · have hqi : q.1 = i := by
        obtain ⟨x, hx, hxi⟩ := h
        rcases List.mem_cons.1 hx with rfl | hx
        · exact hxi
        · exact absurd ⟨x, hx, hxi⟩ hq
      refine ⟨q, List.mem_cons_self, hqi, ?_⟩
      rw [seen_no Q i _ fun x hx e => hq ⟨x, hx, e⟩, if_pos hqi]
theorem mod_inj {a b t n : Nat} (ha : t ≤ a) (ha2 : a < t + n) (hb : t ≤ b) (hb2 : b < t + n) (h : a % n = b % n) : a = b := by
  rcases Nat.le_total a b with hab | hab
  · have h1 := Nat.sub_mod_eq_zero_of_mod_eq h.symm
    have h2 : (b - a) % n = b - a := Nat.mod_eq_of_lt (by omega)
    omega
  · have h1 := Nat.sub_mod_eq_zero_of_mod_eq h
    have h2 : (a - b) % n = a - b := Nat.mod_eq_of_lt (by omega)
    omega
end Go.Tn.Dk
namespace Go.Proofs.YtmakpbjknklpiaaGreat
open Go.RowKit Go.Tn Go.Tn.Bt Go.Tn.Lp Go.Tn.Dk
def ringQ (n : Nat) (ps : List Pc) : List (Nat × List Nat) := ps.map fun q => (2 + q.ct % n, sealB q)
theorem allPcs_append : ∀ (a b : List Rc) (ct : Nat), allPcs ct (a ++ b) = allPcs ct a ++ allPcs (endCt ct a) b
  | [], b, ct => rfl
  | r :: a, b, ct => by
    show r.pcs ct ++ allPcs (ct + r.n) (a ++ b) = (r.pcs ct ++ allPcs (ct + r.n) a) ++ allPcs (endCt (ct + r.n) a) b
    rw [allPcs_append a b, List.append_assoc]
theorem allPcs_inj : ∀ (rs : List Rc) (ct : Nat), ∀ p ∈ allPcs ct rs, ∀ q ∈ allPcs ct rs, p.ct = q.ct → p = q
  | [], ct => fun p h => by cases h
  | r :: rs, ct => fun p hp q hq e => by
    rcases List.mem_append.1 hp with hp | hp
    · obtain ⟨i, hi, rfl⟩ := mem_pcs hp
      rcases List.mem_append.1 hq with hq | hq
      · obtain ⟨j, hj, rfl⟩ := mem_pcs hq
        simp only [pieceAt] at e
        obtain rfl : i = j := by omega
        rfl
      · have := (allPcs_ct rs _ q hq).1
        simp only [pieceAt] at e
        omega
    · rcases List.mem_append.1 hq with hq | hq
      · obtain ⟨j, hj, rfl⟩ := mem_pcs hq
        have := (allPcs_ct rs _ p hp).1
        simp only [pieceAt] at e
        omega
      · exact allPcs_inj rs _ p hp q hq e
/-- Each count has its piece. -/
theorem allPcs_all : ∀ (rs : List Rc) (ct c : Nat), ct ≤ c → c < endCt ct rs → ∃ q ∈ allPcs ct rs, q.ct = c
  | [], ct, c, h1, h2 => by
    have h2 : c < ct := h2
    omega
  | r :: rs, ct, c, h1, h2 => by
    by_cases h : c < ct + r.n
    · refine ⟨pieceAt r.ep ct (recB r.ps) (c - ct), List.mem_append_left _ ?_, ?_⟩
      · exact List.mem_of_getElem? (r.get ct (i := c - ct) (by omega))
      · simp only [pieceAt]
        omega
    · obtain ⟨q, hq, hc⟩ := allPcs_all rs (ct + r.n) c (by omega) h2
      exact ⟨q, List.mem_append_right _ hq, hc⟩
/-- Records whose epochs never fall. -/
def Rise (homes : Nat) : Nat → Nat → List Rc → Prop
  | _, _, [] => True
  | ct, f, r :: rs => f ≤ r.ep ∧ r.good homes ct ∧ Rise homes (ct + r.n) r.ep rs
theorem chain_iff (d : Dsk) (n homes : Nat) : ∀ (rs : List Rc) (ct f : Nat), Chain d n homes ct f rs ↔ Rise homes ct f rs ∧ ∀ q ∈ allPcs ct rs, d.get (2 + q.ct % n) = sealB q
  | [], ct, f => ⟨fun _ => ⟨trivial, fun q hq => by cases hq⟩, fun _ => trivial⟩
  | r :: rs, ct, f => by
    constructor
    · rintro ⟨h1, h2, h3, h4⟩
      obtain ⟨h5, h6⟩ := (chain_iff d n homes rs _ _).1 h4
      refine ⟨⟨h1, h2, h5⟩, fun q hq => ?_⟩
      rcases List.mem_append.1 hq with hq | hq
      · exact h3 q hq
      · exact h6 q hq
    · rintro ⟨⟨h1, h2, h5⟩, h6⟩
      exact ⟨h1, h2, fun q hq => h6 q (List.mem_append_left _ hq), (chain_iff d n homes rs _ _).2 ⟨h5, fun q hq => h6 q (List.mem_append_right _ hq)⟩⟩
theorem rise_append (homes : Nat) : ∀ (a b : List Rc) (ct f : Nat), Rise homes ct f (a ++ b) ↔ Rise homes ct f a ∧ Rise homes (endCt ct a) (lastF f a) b
  | [], b, ct, f => ⟨fun h => ⟨trivial, h⟩, fun h => h.2⟩
  | r :: a, b, ct, f => by
    have ih := rise_append homes a b (ct + r.n) r.ep
    constructor
    · rintro ⟨h1, h2, h3⟩
      obtain ⟨h4, h5⟩ := ih.1 h3
      exact ⟨⟨h1, h2, h4⟩, h5⟩
    · rintro ⟨⟨h1, h2, h3⟩, h4⟩
      exact ⟨h1, h2, ih.2 ⟨h3, h4⟩⟩
theorem rise_goods {homes E : Nat} : ∀ (P : List Rc) (ct f : Nat), f ≤ E → Goods homes E ct P → Rise homes ct f P
  | [], _, _, _, _ => trivial
  | r :: P, ct, f, hf, ⟨h1, h2, h3⟩ => ⟨by omega, h2, rise_goods P _ _ (by omega) h3⟩
theorem lastF_goods {homes E : Nat} : ∀ (P : List Rc) (ct f : Nat), Goods homes E ct P → P ≠ [] → lastF f P = E
  | [], _, _, _, h => absurd rfl h
  | [r], _, _, ⟨h1, _⟩, _ => h1
  | r :: s :: P, ct, f, ⟨h1, h2, h3⟩, _ => lastF_goods (s :: P) (ct + r.n) r.ep h3 (by simp)
theorem goods_append {homes E : Nat} : ∀ (a b : List Rc) (ct : Nat), Goods homes E ct (a ++ b) ↔ Goods homes E ct a ∧ Goods homes E (endCt ct a) b
  | [], b, ct => ⟨fun h => ⟨trivial, h⟩, fun h => h.2⟩
  | r :: a, b, ct => by
    have ih := goods_append (homes := homes) (E := E) a b (ct + r.n)
    constructor
    · rintro ⟨h1, h2, h3⟩
      obtain ⟨h4, h5⟩ := ih.1 h3
      exact ⟨⟨h1, h2, h4⟩, h5⟩
    · rintro ⟨⟨h1, h2, h3⟩, h4⟩
      exact ⟨h1, h2, ih.2 ⟨h3, h4⟩⟩
theorem rise_ok {homes : Nat} : ∀ (rs : List Rc) (ct f : Nat), Rise homes ct f rs → ∀ q ∈ allPcs ct rs, q.ok
  | [], _, _, _, q, h => by cases h
  | r :: rs, ct, f, ⟨_, h2, h3⟩, q, h => by
    rcases List.mem_append.1 h with h | h
    · exact h2.ok q h
    · exact rise_ok rs _ _ h3 q h
theorem pieceB_same {d d' : Dsk} {n c : Nat} (h : d'.get (2 + c % n) = d.get (2 + c % n)) : pieceB d' n c = pieceB d n c := by
  unfold pieceB
  rw [h]
/-- What the ring says next hangs on the ring's sectors alone. -/
theorem recGo_same {d d' : Dsk} {n next f : Nat} : ∀ (m : Nat) (acc : List Pc), (∀ c, next ≤ c → c < next + acc.length + m → pieceB d' n c = pieceB d n c) → recGo d' n next f m acc = recGo d n next f m acc
  | 0, _, _ => by simp [recGo]
  | m + 1, acc, h => by
    have h0 := h (next + acc.length) (by omega) (by omega)
    have ih : ∀ q, recGo d' n next f m (acc ++ [q]) = recGo d n next f m (acc ++ [q]) := fun q => recGo_same m _ fun c h1 h2 => h c h1 (by simp at h2; omega)
    cases acc with
    | nil =>
      have ih' : ∀ q, recGo d' n next f m [q] = recGo d n next f m [q] := ih
      simp only [recGo, h0, ih']
    | cons p r =>
      simp only [recGo, h0, ih]
theorem stepB_same' {d d' : Dsk} {l : Lg} {f : Nat} (hL : d'.L.length = d.L.length) (ht : l.tail ≤ l.next) (h : ∀ c, l.next ≤ c → c < l.tail + l.n → pieceB d' l.n c = pieceB d l.n c) : stepB d l f = none → stepB d' l f = none := by
  refine stepB_same hL ?_
  unfold Lg.recordB
  have hfr : l.free = l.n - (l.next - l.tail) := rfl
  by_cases hle : l.next ≤ l.tail + l.n
  · exact recGo_same _ _ fun c h1 h2 => h c h1 (by simp at h2; omega)
  · have : l.free = 0 := by omega
    rw [this]
    simp [recGo]
end Go.Proofs.YtmakpbjknklpiaaGreat

/- What is true of a log and its disk: what lasts says these records, these others wait. Write, flush, open. Plain. -/
namespace Go.Proofs.YtmakpbjknklpiaaGreat
open Go.RowKit Go.Tn Go.Tn.Bt Go.Tn.Lp Go.Tn.Dk
/-- The head that a disk has. -/
def HeadIs (d : Dsk) (gen tail F : Nat) : Prop := (d.head 0 = some ⟨gen, tail, F⟩ ∧ d.get (gen % 2) = sealB (headPc F ⟨gen, tail, F⟩)) ∨ (d.head 0 = none ∧ gen = 0 ∧ tail = 0 ∧ F = 1)
theorem HeadIs.same {d d' : Dsk} {gen tail F : Nat} (h : HeadIs d gen tail F) (hs : ∀ i, i < 2 → d'.get i = d.get i) : HeadIs d' gen tail F := by
  have e : d'.head 0 = d.head 0 := by
    unfold Dsk.head
    rw [hs 0 (by decide), hs (0 + 1) (by decide)]
  rcases h with ⟨h, h2⟩ | h
  · exact .inl ⟨by rw [e]; exact h, by rw [hs _ (Nat.mod_lt _ (by decide))]; exact h2⟩
  · exact .inr ⟨by rw [e]; exact h.1, h.2⟩
/-- What lasts. -/
structure Base (d : Dsk) (l : Lg) (F : Nat) (D : List Rc) : Prop where
  hd : HeadIs d l.gen l.tail F
  rise : Rise (l.homes d) l.tail F D
  slots : ∀ q ∈ allPcs l.tail D, d.get (2 + q.ct % l.n) = sealB q
  room : endCt l.tail D ≤ l.tail + l.n
  fle : lastF F D ≤ l.epoch
  stop : lastF F D = l.epoch ∨ stepB d (Lg.behind (log0 l.n l.epoch l.gen l.tail) D) (lastF F D) = none
  old : ∀ c q, endCt l.tail D ≤ c → c < l.tail + l.n → pieceB d l.n c = some q → q.ep < l.epoch
/-- What lasts, what waits. -/
structure Rg (d : Dsk) (l : Lg) (F : Nat) (D P : List Rc) : Prop where
  fit : l.fit d
  dok : d.ok
  base : Base d.last l F D
  q : d.Q = ringQ l.n (allPcs (endCt l.tail D) P)
  gs : Goods (l.homes d) l.epoch (endCt l.tail D) P
  nx : l.next = endCt l.tail (D ++ P)
  H : l.H = applyH (fun _ => none) (D ++ P)
theorem homes_le {l : Lg} {d : Dsk} (h : d.ok) : l.homes d ≤ 4096 := by unfold Lg.homes; have := h.hi; omega
theorem Rg.next {d : Dsk} {l : Lg} {F : Nat} {D P : List Rc} (h : Rg d l F D P) : endCt l.tail D ≤ l.next ∧ l.next = endCt (endCt l.tail D) P ∧ l.tail ≤ endCt l.tail D := by
  have h1 := h.nx
  rw [endCt_append] at h1
  have h2 := endCt_le P (endCt l.tail D)
  have h3 := endCt_le D l.tail
  exact ⟨by omega, h1, by omega⟩
theorem Rg.ctP {d : Dsk} {l : Lg} {F : Nat} {D P : List Rc} (h : Rg d l F D P) : ∀ q ∈ allPcs (endCt l.tail D) P, endCt l.tail D ≤ q.ct ∧ q.ct < l.next := fun q hq => by
  have := allPcs_ct P _ q hq
  have h2 := h.next
  omega
/-- A place that nobody waits for is seen as it lasts. -/
theorem Rg.rest {d : Dsk} {l : Lg} {F : Nat} {D P : List Rc} (h : Rg d l F D P) {i : Nat} (hi : ∀ q ∈ allPcs (endCt l.tail D) P, 2 + q.ct % l.n ≠ i) : d.get i = d.last.get i := by
  rw [get_last, h.q]
  refine seen_no _ _ _ fun x hx => ?_
  obtain ⟨q, hq, rfl⟩ := List.mem_map.1 hx
  exact hi q hq
theorem Rg.restC {d : Dsk} {l : Lg} {F : Nat} {D P : List Rc} (h : Rg d l F D P) {c : Nat} (h1 : l.tail ≤ c) (h2 : c < l.tail + l.n) (h3 : c < endCt l.tail D ∨ l.next ≤ c) : d.get (2 + c % l.n) = d.last.get (2 + c % l.n) := by
  refine h.rest fun q hq e => ?_
  have h4 := h.ctP q hq
  have h5 := h.next
  have h6 := h.fit.next
  have := mod_inj (t := l.tail) (by omega) (by omega) h1 h2 (show q.ct % l.n = c % l.n by omega)
  omega
theorem Rg.slot {d : Dsk} {l : Lg} {F : Nat} {D P : List Rc} (h : Rg d l F D P) : ∀ q ∈ allPcs l.tail (D ++ P), d.get (2 + q.ct % l.n) = sealB q := fun q hq => by
  rw [allPcs_append] at hq
  have h5 := h.next
  have h6 := h.fit.next
  rcases List.mem_append.1 hq with hq | hq
  · have h4 := allPcs_ct D _ q hq
    rw [h.restC h4.1 (by omega) (.inl h4.2)]
    exact h.base.slots q hq
  · rw [get_last, h.q]
    obtain ⟨x, hx, h1, h2⟩ := seen_some (ringQ l.n (allPcs (endCt l.tail D) P)) (2 + q.ct % l.n) (d.last.get (2 + q.ct % l.n)) ⟨_, List.mem_map.2 ⟨q, hq, rfl⟩, rfl⟩
    obtain ⟨p, hp, rfl⟩ := List.mem_map.1 hx
    rw [h2]
    have hq2 := h.ctP q hq
    have hp2 := h.ctP p hp
    simp only at h1
    have := mod_inj (t := l.tail) (by omega) (by omega) (by omega) (by omega) (show p.ct % l.n = q.ct % l.n by omega)
    rw [allPcs_inj P _ p hp q hq this]
theorem Rg.rise {d : Dsk} {l : Lg} {F : Nat} {D P : List Rc} (h : Rg d l F D P) : Rise (l.homes d) l.tail F (D ++ P) :=
  (rise_append _ D P _ _).2 ⟨h.base.rise, rise_goods P _ _ h.base.fle h.gs⟩
theorem Rg.write {d d' : Dsk} {l : Lg} {F : Nat} {D P : List Rc} (h : Rg d l F D P) {ps : List Pt} (ht : transB ps (l.homes d) = true) (hb : ∀ p ∈ ps, ∀ x ∈ p.2, x < 256) {pcs : List Pc} (hc : cutB l.epoch l.next (recB ps) = .ok pcs) (hf : pcs.length ≤ l.free)
    (hL : d'.L = d.L) (hQ : d'.Q = d.Q ++ ringQ l.n pcs) (hok : d'.ok) : Rg d' { l with next := l.next + pcs.length, H := takeH l.H ps } F D (P ++ [⟨l.epoch, ps⟩]) := by
  have hpc : pcs = (⟨l.epoch, ps⟩ : Rc).pcs l.next := by
    unfold cutB at hc
    split at hc
    · cases hc
    · split at hc
      · cases hc
      · cases hc; rfl
  have hlen : pcs.length = (⟨l.epoch, ps⟩ : Rc).n := by rw [hpc, Rc.len]
  have hfr : l.free = l.n - (l.next - l.tail) := rfl
  have h1 := h.fit.tail
  have h2 := h.fit.next
  have hn := h.next
  have hh : l.homes d' = l.homes d := by unfold Lg.homes; rw [hL]
  have hlast : d'.last.L.length = d.last.L.length := by show d'.L.length = d.L.length; rw [hL]
  have hlg : ∀ i, d'.last.get i = d.last.get i := fun i => by rw [last_get, last_get, hL]
  have hfit' : l.fit d' := h.fit.disk (by rw [hL])
  refine ⟨⟨hfit'.n2, hfit'.nd, hfit'.epoch, hfit'.gen, by simp only; omega, by simp only; omega, hfit'.err, takeH_ok hfit'.H (by rw [show ({ l with next := l.next + pcs.length, H := takeH l.H ps } : Lg).homes d' = l.homes d from hh]; exact ht) hb⟩, hok, ?_, ?_, ?_, ?_, ?_⟩
  · have hb := h.base
    refine ⟨hb.hd.same fun i _ => hlg i, ?_, fun q hq => (hlg _).trans (hb.slots q hq), hb.room, hb.fle, hb.stop.imp id fun hs => stepB_same' hlast ?_ (fun c _ _ => pieceB_same (hlg _)) hs, fun c q c1 c2 hq => hb.old c q c1 c2 ((pieceB_same (hlg _)).symm.trans hq)⟩
    · have : ({ l with next := l.next + pcs.length, H := takeH l.H ps } : Lg).homes d'.last = l.homes d.last := by show d'.last.L.length - 2 - l.n = d.last.L.length - 2 - l.n; rw [hlast]
      rw [this]
      exact hb.rise
    · show l.tail ≤ endCt l.tail D
      omega
  · show d'.Q = ringQ l.n (allPcs (endCt l.tail D) (P ++ [⟨l.epoch, ps⟩]))
    rw [hQ, h.q, allPcs_append, ← hn.2.1]
    unfold ringQ
    rw [List.map_append, hpc]
    show _ = _ ++ List.map _ ((⟨l.epoch, ps⟩ : Rc).pcs l.next ++ [])
    rw [List.append_nil]
  · show Goods (l.homes d') l.epoch (endCt l.tail D) (P ++ [⟨l.epoch, ps⟩])
    rw [hh]
    refine (goods_append P _ _).2 ⟨h.gs, rfl, ⟨ht, hb, ?_⟩, trivial⟩
    rw [← hn.2.1, hc, hpc]
  · show l.next + pcs.length = endCt l.tail (D ++ (P ++ [⟨l.epoch, ps⟩]))
    rw [← List.append_assoc, endCt_append, ← h.nx, hlen]
    rfl
  · show takeH l.H ps = applyH (fun _ => none) (D ++ (P ++ [⟨l.epoch, ps⟩]))
    rw [← List.append_assoc, applyH_append, ← h.H]
    rfl
theorem flush_get {d d' : Dsk} (hL : d'.L = laid d.Q d.L) (hQ : d'.Q = []) {i : Nat} (hi : i < d.L.length) : d'.get i = d.get i := by
  show seenQ d'.Q i (d'.L.getD i []) = seenQ d.Q i (d.L.getD i [])
  rw [hQ, hL, laid_get _ _ _ hi]
  rfl
theorem last_of_none {d : Dsk} (hQ : d.Q = []) : d.last = d := by
  obtain ⟨L, Q, f, a, b⟩ := d
  simp only at hQ
  subst hQ
  rfl
theorem Rg.flush {d d' : Dsk} {l : Lg} {F : Nat} {D P : List Rc} (h : Rg d l F D P) (hL : d'.L = laid d.Q d.L) (hQ : d'.Q = []) (hok : d'.ok) : Rg d' l F (D ++ P) [] := by
  have hlen : d'.L.length = d.L.length := by rw [hL, laid_len]
  have hh : l.homes d' = l.homes d := by unfold Lg.homes; rw [hlen]
  have hn := h.next
  have hnd := h.fit.nd
  have hn2 := h.fit.n2
  have hlt : ∀ c, 2 + c % l.n < d.L.length := fun c => by have := Nat.mod_lt c (show 0 < l.n by omega); omega
  refine ⟨h.fit.disk hlen, hok, ?_, by rw [hQ]; rfl, trivial, by rw [List.append_nil]; exact h.nx, by rw [List.append_nil]; exact h.H⟩
  rw [last_of_none hQ]
  have hb := h.base
  have hnx : endCt l.tail (D ++ P) = l.next := h.nx.symm
  refine ⟨hb.hd.same fun i hi => ?_, by rw [hh]; exact h.rise, fun q hq => ?_, by rw [hnx]; exact h.fit.next, ?_, ?_, fun c q c1 c2 hq => ?_⟩
  · rw [flush_get hL hQ (by omega)]
    exact h.rest fun q hq => by omega
  · rw [flush_get hL hQ (hlt _)]
    exact h.slot q hq
  · rw [lastF_append]
    by_cases hP : P = []
    · subst hP
      exact hb.fle
    · rw [lastF_goods P _ _ h.gs hP]
      exact Nat.le_refl _
  · rw [lastF_append]
    by_cases hP : P = []
    · subst hP
      rw [List.append_nil]
      refine hb.stop.imp id fun hs => stepB_same' (d := d.last) (by show d'.L.length = d.last.L.length; exact hlen) (by show l.tail ≤ endCt l.tail D; omega) (fun c c1 c2 => pieceB_same ?_) hs
      have e : d'.get (2 + c % l.n) = d.last.get (2 + c % l.n) := by
        rw [flush_get hL hQ (hlt _)]
        exact h.rest fun q hq => by cases hq
      exact e
    · exact .inl (lastF_goods P _ _ h.gs hP)
  · rw [hnx] at c1
    have e : pieceB d' l.n c = pieceB d.last l.n c := pieceB_same (by
      rw [flush_get hL hQ (hlt _)]
      exact h.restC (by omega) c2 (.inr c1))
    rw [e] at hq
    exact hb.old c q (by omega) c2 hq
/-! ### Open -/
theorem newest_ge (d : Dsk) : ∀ k i, i < k → (endsB (d.get i)).1 ≤ newestB d k ∧ (endsB (d.get i)).2 ≤ newestB d k
  | k + 1, i, h => by
    simp only [newestB]
    by_cases hi : i = k
    · subst hi
      omega
    · have := newest_ge d k i (by omega)
      omega
theorem newest_seal {d : Dsk} {k i : Nat} {q : Pc} (hi : i < k) (hq : q.ok) (h : d.get i = sealB q) : q.ep ≤ newestB d k := by
  have := newest_ge d k i hi
  rw [h, ends_seal hq] at this
  exact this.1
theorem lastF_mem : ∀ (rs : List Rc) (ct f : Nat), rs ≠ [] → ∃ q ∈ allPcs ct rs, q.ep = lastF f rs
  | [], _, _, h => absurd rfl h
  | [r], ct, f, _ => ⟨_, List.mem_append_left _ (List.mem_of_getElem? (r.get ct (i := 0) r.pos)), rfl⟩
  | r :: s :: rs, ct, f, _ => by
    obtain ⟨q, hq, h⟩ := lastF_mem (s :: rs) (ct + r.n) r.ep (by simp)
    exact ⟨q, List.mem_append_right _ hq, h⟩
theorem stepB_epoch {d : Dsk} {l l' : Lg} {f : Nat} (h1 : l'.n = l.n) (h2 : l'.tail = l.tail) (h3 : l'.next = l.next) : stepB d l f = none → stepB d l' f = none := by
  intro hs
  have hr : l'.recordB d f = l.recordB d f := by unfold Lg.recordB Lg.free; rw [h1, h2, h3]
  have hh : l'.homes d = l.homes d := by unfold Lg.homes; rw [h1]
  unfold stepB at hs ⊢
  rw [hr, hh]
  cases hj : joinB (l.recordB d f) with
  | none => rfl
  | some b =>
    rw [hj] at hs
    simp only at hs ⊢
    cases hd : decB b (l.homes d) with
    | none => rfl
    | some ps => rw [hd] at hs; cases hs
theorem headPc_ok {ep : Nat} {h : Hd} (he : ep ≤ 16777215) (hg : h.gen ≤ 1099511627775) : (headPc ep h).ok := ⟨he, hg, by
  show (headD h.tail h.floor).length ≤ 106
  simp [headD, pack_len, bitsN_len]⟩
/-- What a disk says where nothing waits. -/
theorem open_base {d : Dsk} {n gen tail F : Nat} {D : List Rc} {E : Nat} (hd : d.ok) (hn2 : 2 ≤ n) (hnd : n + 3 ≤ d.L.length) (hh : HeadIs d gen tail F) (hr : Rise (d.L.length - 2 - n) tail F D) (hs : ∀ q ∈ allPcs tail D, d.get (2 + q.ct % n) = sealB q) (hroom : endCt tail D ≤ tail + n)
    (hst : stepB d (Lg.behind (log0 n E gen tail) D) (lastF F D) = none) (hnew : newestB d (2 + n) < 16777215) : openB d n = some (Lg.behind (log0 n (newestB d (2 + n) + 1) gen tail) D) := by
  have key : ∀ (o : Option Hd), d.head 0 = o → (o.getD hd0).gen = gen → (o.getD hd0).tail = tail → (if o.isSome = true then (o.getD hd0).floor else 1) = F → openB d n = some (Lg.behind (log0 n (newestB d (2 + n) + 1) gen tail) D) := by
    intro o ho h1 h2 h3
    unfold openB
    rw [if_neg (by omega), ho, h1, h2, h3]
    congr 1
    have hle := endCt_le D tail
    exact replay_stop (l := log0 n (newestB d (2 + n) + 1) gen tail) (homes_le hd) ((chain_iff _ _ _ _ _ _).2 ⟨hr, hs⟩) (Nat.le_refl _) hroom (stepB_epoch (l := Lg.behind (log0 n E gen tail) D) (l' := Lg.behind (log0 n (newestB d (2 + n) + 1) gen tail) D) rfl rfl rfl hst)
  rcases hh with ⟨hh, -⟩ | ⟨hh, rfl, rfl, rfl⟩
  · exact key _ hh rfl rfl rfl
  · exact key _ hh rfl rfl rfl
theorem base_stop {d : Dsk} {l : Lg} {F : Nat} {D : List Rc} (h : Base d l F D) (hle : l.tail ≤ endCt l.tail D) : stepB d (Lg.behind (log0 l.n l.epoch l.gen l.tail) D) (lastF F D) = none := by
  refine h.stop.elim (fun he => ?_) id
  refine step_old (d := d) (d' := d) (E := l.epoch) rfl hle (.inl he) (fun c q h1 h2 hq => h.old c q h1 h2 hq) (fun c _ _ => .inl rfl) fun _ => .inl rfl
/-- Open of a disk where nothing waits: the same homes, a new epoch. -/
theorem Rg.open_ {d : Dsk} {l : Lg} {F : Nat} {D : List Rc} (h : Rg d l F D []) (hnew : newestB d (2 + l.n) < 16777215) :
    ∃ l2, openB d l.n = some l2 ∧ l2.n = l.n ∧ l2.H = l.H ∧ l2.next = l.next ∧ l2.tail = l.tail ∧ l2.gen = l.gen ∧ l2.epoch = newestB d (2 + l.n) + 1 ∧ l2.err = 0 ∧ Rg d l2 F D [] := by
  have hQ : d.Q = [] := h.q
  have hb := h.base
  rw [last_of_none hQ] at hb
  have hn := h.next
  have hnx : l.next = endCt l.tail D := by have := h.nx; rwa [List.append_nil] at this
  have hH : l.H = applyH (fun _ => none) D := by have := h.H; rwa [List.append_nil] at this
  have hst := base_stop hb hn.2.2
  have ho := open_base h.dok h.fit.n2 h.fit.nd hb.hd hb.rise hb.slots hb.room hst hnew
  refine ⟨_, ho, rfl, hH.symm, hnx.symm, rfl, rfl, rfl, rfl, ?_⟩
  have hslots : ∀ q ∈ allPcs l.tail D, q.ep ≤ newestB d (2 + l.n) := fun q hq => newest_seal (i := 2 + q.ct % l.n) (by have := Nat.mod_lt q.ct (show 0 < l.n by have := h.fit.n2; omega); omega) (rise_ok D _ _ hb.rise q hq) (hb.slots q hq)
  refine ⟨open_fit h.dok h.fit.n2 h.fit.nd ho, h.dok, ?_, hQ, trivial, by rw [List.append_nil]; rfl, by rw [List.append_nil]; rfl⟩
  rw [last_of_none hQ]
  refine ⟨hb.hd, hb.rise, hb.slots, hb.room, ?_, .inr (stepB_epoch (l := Lg.behind (log0 l.n l.epoch l.gen l.tail) D) (l' := Lg.behind (log0 l.n (newestB d (2 + l.n) + 1) l.gen l.tail) D) rfl rfl rfl hst), fun c q h1 h2 hq => ?_⟩
  · show lastF F D ≤ newestB d (2 + l.n) + 1
    by_cases hD : D = []
    · subst hD
      show F ≤ _
      rcases hb.hd with ⟨_, hi2⟩ | ⟨_, _, _, rfl⟩
      · by_cases hF : F ≤ 16777215
        · have := newest_seal (k := 2 + l.n) (by have := Nat.mod_lt l.gen (show 0 < 2 by decide); omega) (headPc_ok hF h.fit.gen) hi2
          have : F ≤ newestB d (2 + l.n) := this
          omega
        · have := hb.fle
          have := h.fit.epoch
          have h3 : F ≤ l.epoch := hb.fle
          omega
      · omega
    · obtain ⟨q, hq, he⟩ := lastF_mem D l.tail F hD
      have := hslots q hq
      omega
  · show q.ep < newestB d (2 + l.n) + 1
    obtain ⟨hg, rfl⟩ := pieceB_get hq
    have hi : 2 + q.ct % l.n < 2 + l.n := by have := Nat.mod_lt q.ct (show 0 < l.n by have := h.fit.n2; omega); omega
    have hqok : q.ok := (pieceB_ok (n := l.n) h.dok (by have := h.fit.n2; omega) (by have := h.fit.nd; omega) hq).1
    have := newest_seal hi hqok hg
    omega
end Go.Proofs.YtmakpbjknklpiaaGreat

/- A torn sector: the elder one, the newer one, or none. Plain. -/
namespace Go.Tn.Lp
open Go.Tn Go.Tn.Bt
/-- The first k bytes of one sector, the rest of another one. -/
def tornB (k : Nat) (a b : List Nat) : List Nat := a.take k ++ b.drop k
/-- The epoch that eight bytes begin with. -/
def epN (b : List Nat) : Nat := numOf b / 1099511627776
theorem epN8 {a b c d e f g h : Nat} (hd : d < 256) (he : e < 256) (hf : f < 256) (hg : g < 256) (hh : h < 256) : epN [a, b, c, d, e, f, g, h] = a * 65536 + b * 256 + c := by
  unfold epN numOf
  simp only [List.foldl_cons, List.foldl_nil]
  omega
theorem epN_hi {l : List Nat} (h8 : l.length = 8) (hb : ∀ x ∈ l, x < 256) : ∃ a b c r, l = a :: b :: c :: r ∧ r.length = 5 ∧ a < 256 ∧ b < 256 ∧ c < 256 ∧ epN l = a * 65536 + b * 256 + c := by
  obtain ⟨a, b, c, d, e, f, g, h, rfl⟩ : ∃ a b c d e f g h, l = [a, b, c, d, e, f, g, h] := by
    match l, h8 with
    | [a, b, c, d, e, f, g, h], _ => exact ⟨a, b, c, d, e, f, g, h, rfl⟩
  have h := hb
  exact ⟨a, b, c, _, rfl, rfl, hb _ (by simp), hb _ (by simp), hb _ (by simp), epN8 (hb _ (by simp)) (hb _ (by simp)) (hb _ (by simp)) (hb _ (by simp)) (hb _ (by simp))⟩
theorem epN_stamp {p : Pc} (h : p.ok) : epN (bytesN (stampN p) 8) = p.ep := by
  have h1 := h.1
  have h2 := h.2.1
  unfold epN
  rw [numOf_bytesN]
  have hs : stampN p % 256 ^ 8 = stampN p := Nat.mod_eq_of_lt (by unfold stampN; omega)
  rw [hs]
  unfold stampN
  omega
theorem stamp_inj {p q : Pc} (hp : p.ok) (hq : q.ok) (h : bytesN (stampN p) 8 = bytesN (stampN q) 8) : p.ep = q.ep ∧ p.ct = q.ct := by
  have h1 := congrArg numOf h
  rw [numOf_bytesN, numOf_bytesN] at h1
  have hs : stampN p % 256 ^ 8 = stampN p := Nat.mod_eq_of_lt (by have := hp.1; have := hp.2.1; unfold stampN; omega)
  have ht : stampN q % 256 ^ 8 = stampN q := Nat.mod_eq_of_lt (by have := hq.1; have := hq.2.1; unfold stampN; omega)
  rw [hs, ht] at h1
  have a1 := hp.1
  have a2 := hp.2.1
  have a3 := hq.1
  have a4 := hq.2.1
  unfold stampN at h1
  omega
theorem unseal_ends {b : List Nat} {p : Pc} (hb : ∀ x ∈ b, x < 256) (h : unsealB b = some p) : p.ok ∧ b.length = 128 ∧ b.take 8 = bytesN (stampN p) 8 ∧ b.drop 120 = bytesN (stampN p) 8 := by
  have hok := (unsealB_ok hb h).1
  have hs := seal_unseal h
  refine ⟨hok, by rw [← hs, sealB_len], by rw [← hs]; exact seal_front p hok.2.2, by rw [← hs]; exact seal_back p⟩
/-- What a sector may be where an epoch's pieces are written: its ends are elder, or it is such a piece. -/
structure Sect (E : Nat) (X : List Nat) : Prop where
  len : X.length = 128
  byt : ∀ x ∈ X, x < 256
  fe : epN (X.take 8) ≤ E
  be : epN (X.drop 120) ≤ E
  hi : epN (X.drop 120) / 256 ≤ epN (X.take 8) / 256
  old : (epN (X.take 8) < E ∧ epN (X.drop 120) < E) ∨ ∃ p, unsealB X = some p ∧ p.ep = E
theorem take_torn {k n : Nat} {a b : List Nat} (ha : a.length = 128) (hb : b.length = 128) (hn : n ≤ 128) : (tornB k a b).take n = (a.take n).take k ++ (b.take n).drop k := by
  unfold tornB
  rw [List.take_append, List.take_take, List.take_take, List.length_take, List.take_drop, Nat.min_comm]
  by_cases hk : k ≤ 128
  · rw [show n - min k a.length = n - k by omega]
    by_cases hkn : k ≤ n
    · rw [show k + (n - k) = n by omega]
    · have e1 : (b.take n).drop k = [] := List.drop_eq_nil_of_le (by rw [List.length_take]; omega)
      have e2 : (b.take (k + (n - k))).drop k = [] := List.drop_eq_nil_of_le (by rw [List.length_take]; omega)
      rw [e1, e2]
  · have e1 : (b.take n).drop k = [] := List.drop_eq_nil_of_le (by rw [List.length_take]; omega)
    have e2 : (b.take (k + (n - min k a.length))).drop k = [] := List.drop_eq_nil_of_le (by rw [List.length_take]; omega)
    rw [e1, e2]
theorem drop_torn {k : Nat} {a b : List Nat} (ha : a.length = 128) : (tornB k a b).drop 120 = (a.drop 120).take (k - 120) ++ (b.drop 120).drop (k - 120) := by
  unfold tornB
  rw [List.drop_append, List.length_take, List.drop_take, List.drop_drop, List.drop_drop]
  congr 2
  omega
theorem ar1 {E a b c a' b' c' : Nat} (h1 : E = a * 65536 + b * 256 + c) (hE : E < 65536) (h2 : a' * 65536 + b' * 256 + c' < E) : a = a' := by omega
theorem ar2 {E a b c a' b' c' a'' c'' : Nat} (h1 : E = a * 65536 + b * 256 + c) (hE : E < 65536) (hc : c < 256) (hc' : c' < 256) (hc'' : c'' < 256) (h2 : a' * 65536 + b' * 256 + c' < E) (h3 : a'' * 65536 + b * 256 + c'' < E)
    (hh : (a'' * 65536 + b * 256 + c'') / 256 ≤ (a' * 65536 + b' * 256 + c') / 256) : a = a' ∧ b = b' := by omega
/-- A torn sector unseals to the elder one, or the newer one, or not at all. -/
theorem torn_or {E k : Nat} {X : List Nat} {q : Pc} (hX : Sect E X) (hE : E < 65536) (hq : q.ok) (hqd : ∀ x ∈ q.da, x < 256) (hqE : q.ep = E) (hct : ∀ p, unsealB X = some p → p.ep = E → p.ct ≠ q.ct) :
    unsealB (tornB k (sealB q) X) = none ∨ tornB k (sealB q) X = X ∨ tornB k (sealB q) X = sealB q := by
  have hSl := sealB_len q
  have hSb := sealB_lt q hqd hq.2.2
  have hfS := seal_front q hq.2.2
  have hbS := seal_back q
  have heS := epN_stamp hq
  cases hu : unsealB (tornB k (sealB q) X) with
  | none => exact .inl rfl
  | some p' =>
    right
    have hYb : ∀ x ∈ tornB k (sealB q) X, x < 256 := fun x hx => by
      rcases List.mem_append.1 hx with hx | hx
      · exact hSb x (List.mem_of_mem_take hx)
      · exact hX.byt x (List.mem_of_mem_drop hx)
    obtain ⟨hpok, hYl, hf, hb⟩ := unseal_ends hYb hu
    have hfb : (tornB k (sealB q) X).take 8 = (tornB k (sealB q) X).drop 120 := hf.trans hb.symm
    rw [take_torn hSl hX.len (by decide), drop_torn hSl, hfS, hbS] at hfb
    obtain ⟨s, hs⟩ : ∃ s, bytesN (stampN q) 8 = s := ⟨_, rfl⟩
    have hsl : s.length = 8 := by rw [← hs, bytesN_len]
    have hsb : ∀ x ∈ s, x < 256 := by rw [← hs]; exact bytesN_lt _ _
    rw [hs] at hfb hfS hbS heS
    have hfl : (X.take 8).length = 8 := by rw [List.length_take, hX.len]; rfl
    have hbl : (X.drop 120).length = 8 := by rw [List.length_drop, hX.len]
    have hXf : ∀ x ∈ X.take 8, x < 256 := fun x hx => hX.byt x (List.mem_of_mem_take hx)
    have hXb : ∀ x ∈ X.drop 120, x < 256 := fun x hx => hX.byt x (List.mem_of_mem_drop hx)
    by_cases hk128 : 128 ≤ k
    · right
      unfold tornB
      rw [List.take_of_length_le (by omega), List.drop_eq_nil_of_le (by rw [hX.len]; omega), List.append_nil]
    by_cases hk8 : 8 ≤ k
    · have z1 : (X.take 8).drop k = [] := List.drop_eq_nil_of_le (by rw [hfl]; omega)
      have z2 : s.take k = s := List.take_of_length_le (by rw [hsl]; omega)
      rw [z1, z2, List.append_nil] at hfb
      by_cases hk120 : k ≤ 120
      · exfalso
        rw [show k - 120 = 0 by omega, List.take_zero, List.nil_append, List.drop_zero] at hfb
        rcases hX.old with ⟨_, h2⟩ | ⟨p, hp, hpe⟩
        · rw [← hfb, heS] at h2
          omega
        · obtain ⟨ok1, _, _, h4⟩ := unseal_ends hX.byt hp
          have := (stamp_inj ok1 hq (by rw [← h4, ← hfb, hs])).2
          exact hct p hp hpe this
      · right
        -- the rest of both is the same
        have h1 : (X.drop 120).drop (k - 120) = s.drop (k - 120) := by
          have e := congrArg (List.drop (k - 120)) hfb
          rw [List.drop_left' (by rw [List.length_take, hsl]; omega)] at e
          exact e.symm
        rw [← hbS, List.drop_drop, List.drop_drop, show 120 + (k - 120) = k by omega] at h1
        unfold tornB
        rw [h1, List.take_append_drop]
    · left
      rw [show k - 120 = 0 by omega, List.take_zero, List.nil_append, List.drop_zero] at hfb
      -- where the first k bytes are the same, so is the sector
      have key : s.take k = (X.take 8).take k → tornB k (sealB q) X = X := fun h => by
        unfold tornB
        rw [← hfS, List.take_take, List.take_take, Nat.min_eq_left (by omega)] at h
        rw [h, List.take_append_drop]
      rcases hX.old with ⟨h1, h2⟩ | ⟨p, hp, hpe⟩
      · obtain ⟨a, b, c, r, hsd, hr, ha1, hb1, hc1, he1⟩ := epN_hi hsl hsb
        obtain ⟨a', b', c', r', hfd, hr', ha2, hb2, hc2, he2⟩ := epN_hi hfl hXf
        obtain ⟨a'', b'', c'', r'', hbd, hr'', ha3, hb3, hc3, he3⟩ := epN_hi hbl hXb
        have hhi := hX.hi
        rw [hsd, hfd, hbd] at hfb
        rw [hsd, hfd] at key
        rw [he2, he3] at hhi
        rw [he2] at h1
        rw [he3] at h2
        have he1 : a * 65536 + b * 256 + c = E := by rw [← he1, heS, hqE]
        clear hu hYb hpok hYl hf hb hSl hSb hfS hbS hs hsl hsb hfl hbl hXf hXb hct hX hq hqd hfd hbd hsd heS
        rcases k with _ | _ | _ | k
        · exact key rfl
        · refine key ?_
          rw [ar1 he1.symm hE h1]
          rfl
        · simp only [List.take_succ_cons, List.take_zero, List.drop_succ_cons, List.drop_zero, List.cons_append, List.nil_append, List.cons.injEq] at hfb
          obtain ⟨f1, f2, -⟩ := hfb
          subst f2
          refine key ?_
          obtain ⟨g1, g2⟩ := ar2 he1.symm hE hc1 hc2 hc3 h1 h2 hhi
          rw [g1, g2]
          rfl
        · exfalso
          simp only [List.take_succ_cons, List.cons_append, List.cons.injEq] at hfb
          obtain ⟨f1, f2, f3, -⟩ := hfb
          subst f1 f2 f3
          omega
      · obtain ⟨_, _, h3, h4⟩ := unseal_ends hX.byt hp
        refine key ?_
        have e : X.drop 120 = X.take 8 := h4.trans h3.symm
        rw [e] at hfb
        have := congrArg (List.take k) hfb
        rwa [List.take_left' (by rw [List.length_take, hsl]; omega)] at this
theorem epN3 {a b c : Nat} {r : List Nat} (hr : r.length = 5) (hb : ∀ x ∈ r, x < 256) : epN (a :: b :: c :: r) = a * 65536 + b * 256 + c := by
  match r, hr with
  | [d, e, f, g, h], _ => exact epN8 (hb _ (by simp)) (hb _ (by simp)) (hb _ (by simp)) (hb _ (by simp)) (hb _ (by simp))
/-- Eight bytes of which the first are another's: their epoch. -/
theorem epN_mix {s x : List Nat} (hs : s.length = 8) (hx : x.length = 8) (hsb : ∀ y ∈ s, y < 256) (hxb : ∀ y ∈ x, y < 256) (h1 : epN s < 65536) (h2 : epN x < 65536) (j : Nat) :
    epN (s.take j ++ x.drop j) = epN x ∨ epN (s.take j ++ x.drop j) = epN s / 256 * 256 + epN x % 256 ∨ epN (s.take j ++ x.drop j) = epN s := by
  obtain ⟨a, b, c, r, rfl, hr, ha1, hb1, hc1, he1⟩ := epN_hi hs hsb
  obtain ⟨a', b', c', r', rfl, hr', ha2, hb2, hc2, he2⟩ := epN_hi hx hxb
  rw [he1] at h1 ⊢
  rw [he2] at h2 ⊢
  have hrb : ∀ y ∈ r, y < 256 := fun y hy => hsb y (by simp [hy])
  have hrb' : ∀ y ∈ r', y < 256 := fun y hy => hxb y (by simp [hy])
  clear hsb hxb hs hx
  rcases j with _ | _ | _ | j
  · left
    exact epN3 hr' hrb'
  · left
    have := epN3 (a := a) (b := b') (c := c') hr' hrb'
    refine Eq.trans ?_ (this.trans ?_)
    · rfl
    · omega
  · right; left
    have := epN3 (a := a) (b := b) (c := c') hr' hrb'
    refine Eq.trans ?_ (this.trans ?_)
    · rfl
    · omega
  · right; right
    have hl : (r.take j ++ r'.drop j).length = 5 := by
      rw [List.length_append, List.length_take, List.length_drop]
      omega
    have hb3 : ∀ y ∈ r.take j ++ r'.drop j, y < 256 := fun y hy => by
      rcases List.mem_append.1 hy with hy | hy
      · exact hrb y (List.mem_of_mem_take hy)
      · exact hrb' y (List.mem_of_mem_drop hy)
    exact epN3 (a := a) (b := b) (c := c) hl hb3
theorem torn_len {k : Nat} {a b : List Nat} (ha : a.length = 128) (hb : b.length = 128) : (tornB k a b).length = 128 := by
  unfold tornB
  rw [List.length_append, List.length_take, List.length_drop]
  omega
theorem torn_lt {k : Nat} {a b : List Nat} (ha : ∀ x ∈ a, x < 256) (hb : ∀ x ∈ b, x < 256) : ∀ x ∈ tornB k a b, x < 256 := fun x hx => by
  rcases List.mem_append.1 hx with hx | hx
  · exact ha x (List.mem_of_mem_take hx)
  · exact hb x (List.mem_of_mem_drop hx)
/-- What sound sectors' ends are where no epoch is known. -/
structure SectA (M : Nat) (X : List Nat) : Prop where
  len : X.length = 128
  byt : ∀ x ∈ X, x < 256
  fe : epN (X.take 8) ≤ M
  be : epN (X.drop 120) ≤ M
  hi : epN (X.drop 120) / 256 ≤ epN (X.take 8) / 256
theorem Sect.a {E : Nat} {X : List Nat} (h : Sect E X) : SectA E X := ⟨h.len, h.byt, h.fe, h.be, h.hi⟩
theorem SectA.mono {M N : Nat} {X : List Nat} (h : SectA M X) (hM : M ≤ N) : SectA N X := ⟨h.len, h.byt, Nat.le_trans h.fe hM, Nat.le_trans h.be hM, h.hi⟩
theorem SectA.next {M E : Nat} {X : List Nat} (h : SectA M X) (hM : M < E) : Sect E X := ⟨h.len, h.byt, by have := h.fe; omega, by have := h.be; omega, h.hi, .inl ⟨by have := h.fe; omega, by have := h.be; omega⟩⟩
/-- A sector torn: its ends. -/
theorem torn_ends {E k : Nat} {X : List Nat} {q : Pc} (hX : SectA E X) (hE : E < 65536) (hq : q.ok) (hqd : ∀ x ∈ q.da, x < 256) (hqE : q.ep = E) : SectA (E / 256 * 256 + 255) (tornB k (sealB q) X) := by
  have hSl := sealB_len q
  have hSb := sealB_lt q hqd hq.2.2
  have hfS := seal_front q hq.2.2
  have hbS := seal_back q
  have heS := epN_stamp hq
  rw [hqE] at heS
  have hsl : (bytesN (stampN q) 8).length = 8 := bytesN_len _ _
  have hsb : ∀ x ∈ bytesN (stampN q) 8, x < 256 := bytesN_lt _ _
  have hfl : (X.take 8).length = 8 := by rw [List.length_take, hX.len]; rfl
  have hbl : (X.drop 120).length = 8 := by rw [List.length_drop, hX.len]
  have hXf : ∀ x ∈ X.take 8, x < 256 := fun x hx => hX.byt x (List.mem_of_mem_take hx)
  have hXb : ∀ x ∈ X.drop 120, x < 256 := fun x hx => hX.byt x (List.mem_of_mem_drop hx)
  have h1 := hX.fe
  have h2 := hX.be
  have h3 := hX.hi
  have ef : (tornB k (sealB q) X).take 8 = (bytesN (stampN q) 8).take k ++ (X.take 8).drop k := by rw [take_torn hSl hX.len (by decide), hfS]
  have eb : (tornB k (sealB q) X).drop 120 = (bytesN (stampN q) 8).take (k - 120) ++ (X.drop 120).drop (k - 120) := by rw [drop_torn hSl, hbS]
  have mf := epN_mix hsl hfl hsb hXf (by omega) (by omega) k
  have mb := epN_mix hsl hbl hsb hXb (by omega) (by omega) (k - 120)
  rw [← ef] at mf
  rw [← eb] at mb
  rw [heS] at mf mb
  have hk0 : k ≤ 120 → epN ((tornB k (sealB q) X).drop 120) = epN (X.drop 120) := fun h => by
    rw [eb, show k - 120 = 0 by omega]
    rfl
  have hk8 : 120 < k → epN ((tornB k (sealB q) X).take 8) = E := fun h => by
    rw [ef, List.take_of_length_le (by rw [hsl]; omega)]
    have z : (X.take 8).drop k = [] := List.drop_eq_nil_of_le (by rw [hfl]; omega)
    rw [z, List.append_nil, heS]
  have key : epN ((tornB k (sealB q) X).take 8) ≤ E / 256 * 256 + 255 ∧ epN ((tornB k (sealB q) X).drop 120) ≤ E / 256 * 256 + 255 ∧ epN ((tornB k (sealB q) X).drop 120) / 256 ≤ epN ((tornB k (sealB q) X).take 8) / 256 := by
    clear ef eb hfS hbS heS hsl hsb hfl hbl hXf hXb hX hq hqd hqE
    generalize epN ((tornB k (sealB q) X).take 8) = f at *
    generalize epN ((tornB k (sealB q) X).drop 120) = b at *
    generalize epN (X.take 8) = fx at *
    generalize epN (X.drop 120) = bx at *
    refine ⟨by omega, by omega, ?_⟩
    by_cases h120 : k ≤ 120
    · have := hk0 h120
      omega
    · have := hk8 (by omega)
      omega
  exact ⟨torn_len hSl hX.len, torn_lt hSb hX.byt, key.1, key.2.1, key.2.2⟩
theorem seal_sect {q : Pc} (hq : q.ok) (hqd : ∀ x ∈ q.da, x < 256) : Sect q.ep (sealB q) := by
  have hfS := seal_front q hq.2.2
  have hbS := seal_back q
  have heS := epN_stamp hq
  refine ⟨sealB_len q, sealB_lt q hqd hq.2.2, ?_, ?_, ?_, .inr ⟨q, unseal_seal hq, rfl⟩⟩
  · rw [hfS, heS]; exact Nat.le_refl _
  · rw [hbS, heS]; exact Nat.le_refl _
  · rw [hfS, hbS]; exact Nat.le_refl _
end Go.Tn.Lp

/- Bytes, puts that a law is handed. -/
namespace Go.Proofs.YtmakpbjknklpiaaGreat
open Go.ChangeShapes Go.WideShapes Go.ChangeAt Go.RowKit Go.Tn Go.Joins Go.Tn.Bt Go.Tn.Lp Go.Tn.Dk

theorem Tryz.own : ownKnob Tryz.prog.godebug = none := by kernel_rfl
theorem Tryz.laidOut : laidOutB Tryz.prog = true := by kernel_rfl
theorem flatU8 : flat Tryz.prog 1 5 = some [5] := by kernel_rfl
theorem cellsU8 : Tryz.prog.cellsOf 5 = [5].length := by kernel_rfl
theorem flatPut : flat Tryz.prog 3 96 = some [3, 53] := by kernel_rfl
theorem cellsPut : Tryz.prog.cellsOf 96 = [3, 53].length := by kernel_rfl
section
variable {H : Type} {enc : TypeId × Value → H} {w : World} {base : Nat} {spare : Nat → Bool} {held : Bool}
theorem wf_u8_bounds {n : Int} (h : (Lit.int .u8 n).wf = true) : 0 ≤ n ∧ n ≤ 255 := by
  simp [Lit.wf, IntKind.min, IntKind.max, IntKind.signed, IntKind.bits] at h
  omega
theorem bytes_of {ao : Option Addr} {n cap : Nat} {x : DataW H} {ps : List MemPlace} (h : DataW.Trod enc Tryz.prog w base spare held 53 (.slice ao n cap) x ps) :
    ∃ bs : List Nat, LSl en8 1 w (.slice ao n cap) bs ∧ ∀ x ∈ bs, x < 256 := by
  rcases open_flat Tryz.underlying53 flatU8 cellsU8 (by decide) h ⟨_, _, _, rfl⟩ with hv | ⟨b, off, spot, len, cap', hv, hl, hm, hin, hc⟩
  · cases hv
    exact ⟨[], LSl.nil w, fun x hx => by cases hx⟩
  · cases hv
    have hex : ∀ i : Nat, ∃ z : Nat, z < 256 ∧ (i < n → w.cell? ⟨b, off + i, none⟩ = some (.int .u8 (z : Nat))) := fun i => by
      by_cases hi : i < n
      · obtain ⟨c, h1, h2⟩ := hc i hi 0 5 rfl
        obtain ⟨z, rfl, hz⟩ := h2.int Tryz.underlying5
        have hz := wf_u8_bounds hz
        refine ⟨z.toNat, by omega, fun _ => ?_⟩
        rw [show ((z.toNat : Nat) : Int) = z by omega]
        simpa using h1
      · exact ⟨0, by decide, fun h => absurd h hi⟩
    have hlen : ((List.range n).map fun i => Classical.choose (hex i)).length = n := by simp
    refine ⟨(List.range n).map fun i => Classical.choose (hex i), ⟨_, cap, by rw [hlen], by rw [hlen]; exact hl, hm, fun h0 => ?_⟩, fun x hx => ?_⟩
    · rw [hlen] at h0
      refine ⟨b, off, by rw [(hin h0).1], (hin h0).2, fun i y hi => ?_⟩
      have hlt : i < n := by
        have := (List.getElem?_eq_some_iff.1 hi).1
        rwa [hlen] at this
      have hy : Classical.choose (hex i) = y := by simpa [hlt] using hi
      rw [← hy]
      intro j hj
      have hj0 : j = 0 := by simpa using hj
      subst hj0
      have := (Classical.choose_spec (hex i)).2 hlt
      simpa using this
    · obtain ⟨i, _, rfl⟩ := List.mem_map.1 hx
      exact (Classical.choose_spec (hex i)).1
theorem CellOk.bytes {c : Value} (h : CellOk enc Tryz.prog w base spare held 53 c) : ∃ a n cap bs, c = .slice a n cap ∧ LSl en8 1 w (.slice a n cap) bs ∧ ∀ x ∈ bs, x < 256 := by
  obtain ⟨m, ⟨x, ps⟩, h⟩ := h
  have hsh : ∃ a n cap, c = .slice a n cap := by
    rcases Go.Deep.open_slice Tryz.underlying53 h with ⟨hcs, _⟩ | ⟨⟨b, off, spot⟩, len, cap, m, n, D, Pl, hcs, _⟩
    · exact ⟨_, _, _, by simpa using hcs⟩
    · exact ⟨_, _, _, by simpa using hcs⟩
  obtain ⟨a, n, cap, rfl⟩ := hsh
  obtain ⟨bs, h1, h2⟩ := bytes_of (x := x) (ps := ps) ⟨m, h⟩
  exact ⟨a, n, cap, bs, rfl, h1, h2⟩
theorem puts_of {ao : Option Addr} {n cap : Nat} {x : DataW H} {ps : List MemPlace} (h : DataW.Trod enc Tryz.prog w base spare held 37 (.slice ao n cap) x ps) :
    ∃ qs : List Pt, PtsI w (.slice ao n cap) qs ∧ ∀ p ∈ qs, ∀ x ∈ p.2, x < 256 := by
  rcases open_flat Tryz.underlying37 flatPut cellsPut (by decide) h ⟨_, _, _, rfl⟩ with hv | ⟨b, off, spot, len, cap', hv, hl, hm, hin, hc⟩
  · cases hv
    exact ⟨[], ⟨[], rfl, LSl.nil w, fun x hx => by cases hx⟩, fun x hx => by cases hx⟩
  · cases hv
    have hex : ∀ i : Nat, ∃ y : Pt × Sv, i < n → Lies w b (off + i * 2) (enPt y).toArray ∧ LSl en8 1 w (sv y.2) y.1.2 ∧ ∀ x ∈ y.1.2, x < 256 := fun i => by
      by_cases hi : i < n
      · obtain ⟨c0, h1, h2⟩ := hc i hi 0 3 rfl
        obtain ⟨z, rfl, _⟩ := h2.int Tryz.underlying3
        obtain ⟨c1, h3, h4⟩ := hc i hi 1 53 rfl
        obtain ⟨a, k, cp, bs, rfl, h5, h6⟩ := CellOk.bytes h4
        refine ⟨((z, bs), (a, k, cp)), fun _ => ⟨fun j hj => ?_, h5, h6⟩⟩
        have hj2 : j < 2 := by simpa [enPt] using hj
        match j, hj2 with
        | 0, _ => exact h1
        | 1, _ => exact h3
      · exact ⟨((0, []), (none, 0, 0)), fun h => absurd h hi⟩
    have hlen : ((List.range n).map fun i => Classical.choose (hex i)).length = n := by simp
    have hget : ∀ i y, ((List.range n).map fun i => Classical.choose (hex i))[i]? = some y → i < n ∧ Classical.choose (hex i) = y := fun i y hi => by
      have hlt : i < n := by
        have := (List.getElem?_eq_some_iff.1 hi).1
        rwa [hlen] at this
      exact ⟨hlt, by simpa [hlt] using hi⟩
    refine ⟨((List.range n).map fun i => Classical.choose (hex i)).map (·.1), ⟨(List.range n).map fun i => Classical.choose (hex i), rfl, ⟨_, cap, by rw [hlen], by rw [hlen]; exact hl, hm, fun h0 => ?_⟩, fun y hy => ?_⟩, fun p hp => ?_⟩
    · rw [hlen] at h0
      refine ⟨b, off, by rw [(hin h0).1], (hin h0).2, fun i y hi => ?_⟩
      obtain ⟨hlt, hy⟩ := hget i y hi
      rw [← hy]
      exact (Classical.choose_spec (hex i) hlt).1
    · obtain ⟨i, hi⟩ := List.mem_iff_getElem?.1 hy
      obtain ⟨hlt, hy⟩ := hget i y hi
      rw [← hy]
      exact (Classical.choose_spec (hex i) hlt).2.1
    · obtain ⟨y, hy, rfl⟩ := List.mem_map.1 hp
      obtain ⟨i, hi⟩ := List.mem_iff_getElem?.1 hy
      obtain ⟨hlt, hy⟩ := hget i y hi
      rw [← hy]
      exact (Classical.choose_spec (hex i) hlt).2.2
end
end Go.Proofs.YtmakpbjknklpiaaGreat
