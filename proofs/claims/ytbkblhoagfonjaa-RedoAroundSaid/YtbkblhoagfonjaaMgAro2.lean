/- A new disk's log, in plain words. -/
import Derived.Test.YtbkblhoagfonjaaMgAro1
import Derived.Test.YtbkblhoagfonjaaMgSb21
import Derived.WalkKit
import Derived.ProofKit
import Derived.OpenShut
import Derived.ShutString
import Derived.ChangeOld
import Derived.Below
import Derived.Lib.SmallJoins
/- A disk's sectors as they are seen, as they last; chains in parts. Plain. -/
namespace Go.Tn.Dk
open Go.Tn Go.Tn.Bt Go.Tn.Lp
/-- What lasts of a disk. -/
def Dsk.last (d : Dsk) : Dsk := { d with Q := [] }
theorem last_get (d : Dsk) (i : Nat) : d.last.get i = d.L.getD i [] := rfl
theorem get_last (d : Dsk) (i : Nat) : d.get i = seenQ d.Q i (d.last.get i) := rfl
theorem laid_get : ∀ (Q : List (Nat × List Nat)) (L : List (List Nat)) (i : Nat), i < L.length → (laid Q L).getD i [] = seenQ Q i (L.getD i [])
  | [], _, _, _ => rfl
  | q :: Q, L, i, hi => by
    show (laid Q (L.set q.1 q.2)).getD i [] = seenQ Q i (if q.1 = i then q.2 else L.getD i [])
    rw [laid_get Q _ i (by rw [List.length_set]; exact hi)]
    congr 1
    rw [List.getD_eq_getElem?_getD, List.getElem?_set]
    split
    · rename_i h
      subst h
      rw [if_pos hi]
      rfl
    · rw [List.getD_eq_getElem?_getD]
theorem seen_append (Q R : List (Nat × List Nat)) (i : Nat) (s : List Nat) : seenQ (Q ++ R) i s = seenQ R i (seenQ Q i s) := List.foldl_append
theorem seen_no : ∀ (Q : List (Nat × List Nat)) (i : Nat) (s : List Nat), (∀ q ∈ Q, q.1 ≠ i) → seenQ Q i s = s
  | [], _, _, _ => rfl
  | q :: Q, i, s, h => by
    show seenQ Q i (if q.1 = i then q.2 else s) = s
    rw [if_neg (h q List.mem_cons_self), seen_no Q i s fun x hx => h x (List.mem_cons_of_mem _ hx)]
theorem seen_or : ∀ (Q : List (Nat × List Nat)) (i : Nat) (s : List Nat), seenQ Q i s = s ∨ ∃ q ∈ Q, q.1 = i ∧ seenQ Q i s = q.2
  | [], _, _ => .inl rfl
  | q :: Q, i, s => by
    show seenQ Q i (if q.1 = i then q.2 else s) = s ∨ ∃ x ∈ q :: Q, x.1 = i ∧ seenQ Q i (if q.1 = i then q.2 else s) = x.2
    rcases seen_or Q i (if q.1 = i then q.2 else s) with h | ⟨x, hx, h1, h2⟩
    · rw [h]
      split
      · exact .inr ⟨q, List.mem_cons_self, by assumption, rfl⟩
      · exact .inl rfl
    · exact .inr ⟨x, List.mem_cons_of_mem _ hx, h1, h2⟩
/-- A sector that is written at all is seen as one of the writes. -/
theorem seen_some : ∀ (Q : List (Nat × List Nat)) (i : Nat) (s : List Nat), (∃ q ∈ Q, q.1 = i) → ∃ q ∈ Q, q.1 = i ∧ seenQ Q i s = q.2
  | [], _, _, ⟨q, h, _⟩ => by cases h
  | q :: Q, i, s, h => by
    show ∃ x ∈ q :: Q, x.1 = i ∧ seenQ Q i (if q.1 = i then q.2 else s) = x.2
    by_cases hq : ∃ x ∈ Q, x.1 = i
    · obtain ⟨x, hx, h1, h2⟩ := seen_some Q i (if q.1 = i then q.2 else s) hq
      exact ⟨x, List.mem_cons_of_mem _ hx, h1, h2⟩
    · have hqi : q.1 = i := by
        obtain ⟨x, hx, hxi⟩ := h
        rcases List.mem_cons.1 hx with rfl | hx
        · exact hxi
        · exact absurd ⟨x, hx, hxi⟩ hq
      refine ⟨q, List.mem_cons_self, hqi, ?_⟩
      rw [seen_no Q i _ fun x hx e => hq ⟨x, hx, e⟩, if_pos hqi]
theorem mod_inj {a b t n : Nat} (ha : t ≤ a) (ha2 : a < t + n) (hb : t ≤ b) (hb2 : b < t + n) (h : a % n = b % n) : a = b := by
  rcases Nat.le_total a b with hab | hab
  · have h1 := Nat.sub_mod_eq_zero_of_mod_eq h.symm
    have h2 : (b - a) % n = b - a := Nat.mod_eq_of_lt (by omega)
    omega
  · have h1 := Nat.sub_mod_eq_zero_of_mod_eq h
    have h2 : (a - b) % n = a - b := Nat.mod_eq_of_lt (by omega)
    omega
end Go.Tn.Dk
namespace Go.Proofs.Ytbkblhoagfonjaa
open Go.RowKit Go.Tn Go.Tn.Bt Go.Tn.Lp Go.Tn.Dk
def ringQ (n : Nat) (ps : List Pc) : List (Nat × List Nat) := ps.map fun q => (2 + q.ct % n, sealB q)
theorem allPcs_append : ∀ (a b : List Rc) (ct : Nat), allPcs ct (a ++ b) = allPcs ct a ++ allPcs (endCt ct a) b
  | [], b, ct => rfl
  | r :: a, b, ct => by
    show r.pcs ct ++ allPcs (ct + r.n) (a ++ b) = (r.pcs ct ++ allPcs (ct + r.n) a) ++ allPcs (endCt (ct + r.n) a) b
    rw [allPcs_append a b, List.append_assoc]
theorem allPcs_inj : ∀ (rs : List Rc) (ct : Nat), ∀ p ∈ allPcs ct rs, ∀ q ∈ allPcs ct rs, p.ct = q.ct → p = q
  | [], ct => fun p h => by cases h
  | r :: rs, ct => fun p hp q hq e => by
    rcases List.mem_append.1 hp with hp | hp
    · obtain ⟨i, hi, rfl⟩ := mem_pcs hp
      rcases List.mem_append.1 hq with hq | hq
      · obtain ⟨j, hj, rfl⟩ := mem_pcs hq
        simp only [pieceAt] at e
        obtain rfl : i = j := by omega
        rfl
      · have := (allPcs_ct rs _ q hq).1
        simp only [pieceAt] at e
        omega
    · rcases List.mem_append.1 hq with hq | hq
      · obtain ⟨j, hj, rfl⟩ := mem_pcs hq
        have := (allPcs_ct rs _ p hp).1
        simp only [pieceAt] at e
        omega
      · exact allPcs_inj rs _ p hp q hq e
/-- Each count has its piece. -/
theorem allPcs_all : ∀ (rs : List Rc) (ct c : Nat), ct ≤ c → c < endCt ct rs → ∃ q ∈ allPcs ct rs, q.ct = c
  | [], ct, c, h1, h2 => by
    have h2 : c < ct := h2
    omega
  | r :: rs, ct, c, h1, h2 => by
    by_cases h : c < ct + r.n
    · refine ⟨pieceAt r.ep ct (recB r.ps) (c - ct), List.mem_append_left _ ?_, ?_⟩
      · exact List.mem_of_getElem? (r.get ct (i := c - ct) (by omega))
      · simp only [pieceAt]
        omega
    · obtain ⟨q, hq, hc⟩ := allPcs_all rs (ct + r.n) c (by omega) h2
      exact ⟨q, List.mem_append_right _ hq, hc⟩
/-- Records whose epochs never fall. -/
def Rise (homes : Nat) : Nat → Nat → List Rc → Prop
  | _, _, [] => True
  | ct, f, r :: rs => f ≤ r.ep ∧ r.good homes ct ∧ Rise homes (ct + r.n) r.ep rs
theorem chain_iff (d : Dsk) (n homes : Nat) : ∀ (rs : List Rc) (ct f : Nat), Chain d n homes ct f rs ↔ Rise homes ct f rs ∧ ∀ q ∈ allPcs ct rs, d.get (2 + q.ct % n) = sealB q
  | [], ct, f => ⟨fun _ => ⟨trivial, fun q hq => by cases hq⟩, fun _ => trivial⟩
  | r :: rs, ct, f => by
    constructor
    · rintro ⟨h1, h2, h3, h4⟩
      obtain ⟨h5, h6⟩ := (chain_iff d n homes rs _ _).1 h4
      refine ⟨⟨h1, h2, h5⟩, fun q hq => ?_⟩
      rcases List.mem_append.1 hq with hq | hq
      · exact h3 q hq
      · exact h6 q hq
    · rintro ⟨⟨h1, h2, h5⟩, h6⟩
      exact ⟨h1, h2, fun q hq => h6 q (List.mem_append_left _ hq), (chain_iff d n homes rs _ _).2 ⟨h5, fun q hq => h6 q (List.mem_append_right _ hq)⟩⟩
theorem rise_append (homes : Nat) : ∀ (a b : List Rc) (ct f : Nat), Rise homes ct f (a ++ b) ↔ Rise homes ct f a ∧ Rise homes (endCt ct a) (lastF f a) b
  | [], b, ct, f => ⟨fun h => ⟨trivial, h⟩, fun h => h.2⟩
  | r :: a, b, ct, f => by
    have ih := rise_append homes a b (ct + r.n) r.ep
    constructor
    · rintro ⟨h1, h2, h3⟩
      obtain ⟨h4, h5⟩ := ih.1 h3
      exact ⟨⟨h1, h2, h4⟩, h5⟩
    · rintro ⟨⟨h1, h2, h3⟩, h4⟩
      exact ⟨h1, h2, ih.2 ⟨h3, h4⟩⟩
theorem rise_goods {homes E : Nat} : ∀ (P : List Rc) (ct f : Nat), f ≤ E → Goods homes E ct P → Rise homes ct f P
  | [], _, _, _, _ => trivial
  | r :: P, ct, f, hf, ⟨h1, h2, h3⟩ => ⟨by omega, h2, rise_goods P _ _ (by omega) h3⟩
theorem lastF_goods {homes E : Nat} : ∀ (P : List Rc) (ct f : Nat), Goods homes E ct P → P ≠ [] → lastF f P = E
  | [], _, _, _, h => absurd rfl h
  | [r], _, _, ⟨h1, _⟩, _ => h1
  | r :: s :: P, ct, f, ⟨h1, h2, h3⟩, _ => lastF_goods (s :: P) (ct + r.n) r.ep h3 (by simp)
theorem goods_append {homes E : Nat} : ∀ (a b : List Rc) (ct : Nat), Goods homes E ct (a ++ b) ↔ Goods homes E ct a ∧ Goods homes E (endCt ct a) b
  | [], b, ct => ⟨fun h => ⟨trivial, h⟩, fun h => h.2⟩
  | r :: a, b, ct => by
    have ih := goods_append (homes := homes) (E := E) a b (ct + r.n)
    constructor
    · rintro ⟨h1, h2, h3⟩
      obtain ⟨h4, h5⟩ := ih.1 h3
      exact ⟨⟨h1, h2, h4⟩, h5⟩
    · rintro ⟨⟨h1, h2, h3⟩, h4⟩
      exact ⟨h1, h2, ih.2 ⟨h3, h4⟩⟩
theorem rise_ok {homes : Nat} : ∀ (rs : List Rc) (ct f : Nat), Rise homes ct f rs → ∀ q ∈ allPcs ct rs, q.ok
  | [], _, _, _, q, h => by cases h
  | r :: rs, ct, f, ⟨_, h2, h3⟩, q, h => by
    rcases List.mem_append.1 h with h | h
    · exact h2.ok q h
    · exact rise_ok rs _ _ h3 q h
theorem pieceB_same {d d' : Dsk} {n c : Nat} (h : d'.get (2 + c % n) = d.get (2 + c % n)) : pieceB d' n c = pieceB d n c := by
  unfold pieceB
  rw [h]
/-- What the ring says next hangs on the ring's sectors alone. -/
theorem recGo_same {d d' : Dsk} {n next f : Nat} : ∀ (m : Nat) (acc : List Pc), (∀ c, next ≤ c → c < next + acc.length + m → pieceB d' n c = pieceB d n c) → recGo d' n next f m acc = recGo d n next f m acc
  | 0, _, _ => by simp [recGo]
  | m + 1, acc, h => by
    have h0 := h (next + acc.length) (by omega) (by omega)
    have ih : ∀ q, recGo d' n next f m (acc ++ [q]) = recGo d n next f m (acc ++ [q]) := fun q => recGo_same m _ fun c h1 h2 => h c h1 (by simp at h2; omega)
    cases acc with
    | nil =>
      have ih' : ∀ q, recGo d' n next f m [q] = recGo d n next f m [q] := ih
      simp only [recGo, h0, ih']
    | cons p r =>
      simp only [recGo, h0, ih]
theorem stepB_same' {d d' : Dsk} {l : Lg} {f : Nat} (hL : d'.L.length = d.L.length) (ht : l.tail ≤ l.next) (h : ∀ c, l.next ≤ c → c < l.tail + l.n → pieceB d' l.n c = pieceB d l.n c) : stepB d l f = none → stepB d' l f = none := by
  refine stepB_same hL ?_
  unfold Lg.recordB
  have hfr : l.free = l.n - (l.next - l.tail) := rfl
  by_cases hle : l.next ≤ l.tail + l.n
  · exact recGo_same _ _ fun c h1 h2 => h c h1 (by simp at h2; omega)
  · have : l.free = 0 := by omega
    rw [this]
    simp [recGo]
end Go.Proofs.Ytbkblhoagfonjaa

/- What is true of a log and its disk: what lasts says these records, these others wait. Write, flush, open. Plain. -/
namespace Go.Proofs.Ytbkblhoagfonjaa
open Go.RowKit Go.Tn Go.Tn.Bt Go.Tn.Lp Go.Tn.Dk
/-- The head that a disk has. -/
def HeadIs (d : Dsk) (gen tail F : Nat) : Prop := (d.head 0 = some ⟨gen, tail, F⟩ ∧ ∃ i, i < 2 ∧ d.get i = sealB (headPc F ⟨gen, tail, F⟩)) ∨ (d.head 0 = none ∧ gen = 0 ∧ tail = 0 ∧ F = 1)
theorem HeadIs.same {d d' : Dsk} {gen tail F : Nat} (h : HeadIs d gen tail F) (hs : ∀ i, i < 2 → d'.get i = d.get i) : HeadIs d' gen tail F := by
  have e : d'.head 0 = d.head 0 := by
    unfold Dsk.head
    rw [hs 0 (by decide), hs (0 + 1) (by decide)]
  rcases h with ⟨h, i, hi, h2⟩ | h
  · exact .inl ⟨by rw [e]; exact h, i, hi, by rw [hs i hi]; exact h2⟩
  · exact .inr ⟨by rw [e]; exact h.1, h.2⟩
/-- What lasts. -/
structure Base (d : Dsk) (l : Lg) (F : Nat) (D : List Rc) : Prop where
  hd : HeadIs d l.gen l.tail F
  rise : Rise (l.homes d) l.tail F D
  slots : ∀ q ∈ allPcs l.tail D, d.get (2 + q.ct % l.n) = sealB q
  room : endCt l.tail D ≤ l.tail + l.n
  fle : lastF F D ≤ l.epoch
  stop : lastF F D = l.epoch ∨ stepB d (Lg.behind (log0 l.n l.epoch l.gen l.tail) D) (lastF F D) = none
  old : ∀ c q, endCt l.tail D ≤ c → c < l.tail + l.n → pieceB d l.n c = some q → q.ep < l.epoch
/-- What lasts, what waits. -/
structure Rg (d : Dsk) (l : Lg) (F : Nat) (D P : List Rc) : Prop where
  fit : l.fit d
  dok : d.ok
  base : Base d.last l F D
  q : d.Q = ringQ l.n (allPcs (endCt l.tail D) P)
  gs : Goods (l.homes d) l.epoch (endCt l.tail D) P
  nx : l.next = endCt l.tail (D ++ P)
  H : l.H = applyH (fun _ => none) (D ++ P)
theorem homes_le {l : Lg} {d : Dsk} (h : d.ok) : l.homes d ≤ 4096 := by unfold Lg.homes; have := h.hi; omega
theorem Rg.next {d : Dsk} {l : Lg} {F : Nat} {D P : List Rc} (h : Rg d l F D P) : endCt l.tail D ≤ l.next ∧ l.next = endCt (endCt l.tail D) P ∧ l.tail ≤ endCt l.tail D := by
  have h1 := h.nx
  rw [endCt_append] at h1
  have h2 := endCt_le P (endCt l.tail D)
  have h3 := endCt_le D l.tail
  exact ⟨by omega, h1, by omega⟩
theorem Rg.ctP {d : Dsk} {l : Lg} {F : Nat} {D P : List Rc} (h : Rg d l F D P) : ∀ q ∈ allPcs (endCt l.tail D) P, endCt l.tail D ≤ q.ct ∧ q.ct < l.next := fun q hq => by
  have := allPcs_ct P _ q hq
  have h2 := h.next
  omega
/-- A place that nobody waits for is seen as it lasts. -/
theorem Rg.rest {d : Dsk} {l : Lg} {F : Nat} {D P : List Rc} (h : Rg d l F D P) {i : Nat} (hi : ∀ q ∈ allPcs (endCt l.tail D) P, 2 + q.ct % l.n ≠ i) : d.get i = d.last.get i := by
  rw [get_last, h.q]
  refine seen_no _ _ _ fun x hx => ?_
  obtain ⟨q, hq, rfl⟩ := List.mem_map.1 hx
  exact hi q hq
theorem Rg.restC {d : Dsk} {l : Lg} {F : Nat} {D P : List Rc} (h : Rg d l F D P) {c : Nat} (h1 : l.tail ≤ c) (h2 : c < l.tail + l.n) (h3 : c < endCt l.tail D ∨ l.next ≤ c) : d.get (2 + c % l.n) = d.last.get (2 + c % l.n) := by
  refine h.rest fun q hq e => ?_
  have h4 := h.ctP q hq
  have h5 := h.next
  have h6 := h.fit.next
  have := mod_inj (t := l.tail) (by omega) (by omega) h1 h2 (show q.ct % l.n = c % l.n by omega)
  omega
theorem Rg.slot {d : Dsk} {l : Lg} {F : Nat} {D P : List Rc} (h : Rg d l F D P) : ∀ q ∈ allPcs l.tail (D ++ P), d.get (2 + q.ct % l.n) = sealB q := fun q hq => by
  rw [allPcs_append] at hq
  have h5 := h.next
  have h6 := h.fit.next
  rcases List.mem_append.1 hq with hq | hq
  · have h4 := allPcs_ct D _ q hq
    rw [h.restC h4.1 (by omega) (.inl h4.2)]
    exact h.base.slots q hq
  · rw [get_last, h.q]
    obtain ⟨x, hx, h1, h2⟩ := seen_some (ringQ l.n (allPcs (endCt l.tail D) P)) (2 + q.ct % l.n) (d.last.get (2 + q.ct % l.n)) ⟨_, List.mem_map.2 ⟨q, hq, rfl⟩, rfl⟩
    obtain ⟨p, hp, rfl⟩ := List.mem_map.1 hx
    rw [h2]
    have hq2 := h.ctP q hq
    have hp2 := h.ctP p hp
    simp only at h1
    have := mod_inj (t := l.tail) (by omega) (by omega) (by omega) (by omega) (show p.ct % l.n = q.ct % l.n by omega)
    rw [allPcs_inj P _ p hp q hq this]
theorem Rg.rise {d : Dsk} {l : Lg} {F : Nat} {D P : List Rc} (h : Rg d l F D P) : Rise (l.homes d) l.tail F (D ++ P) :=
  (rise_append _ D P _ _).2 ⟨h.base.rise, rise_goods P _ _ h.base.fle h.gs⟩
theorem Rg.write {d d' : Dsk} {l : Lg} {F : Nat} {D P : List Rc} (h : Rg d l F D P) {ps : List Pt} (ht : transB ps (l.homes d) = true) (hb : ∀ p ∈ ps, ∀ x ∈ p.2, x < 256) {pcs : List Pc} (hc : cutB l.epoch l.next (recB ps) = .ok pcs) (hf : pcs.length ≤ l.free)
    (hL : d'.L = d.L) (hQ : d'.Q = d.Q ++ ringQ l.n pcs) (hok : d'.ok) : Rg d' { l with next := l.next + pcs.length, H := takeH l.H ps } F D (P ++ [⟨l.epoch, ps⟩]) := by
  have hpc : pcs = (⟨l.epoch, ps⟩ : Rc).pcs l.next := by
    unfold cutB at hc
    split at hc
    · cases hc
    · split at hc
      · cases hc
      · cases hc; rfl
  have hlen : pcs.length = (⟨l.epoch, ps⟩ : Rc).n := by rw [hpc, Rc.len]
  have hfr : l.free = l.n - (l.next - l.tail) := rfl
  have h1 := h.fit.tail
  have h2 := h.fit.next
  have hn := h.next
  have hh : l.homes d' = l.homes d := by unfold Lg.homes; rw [hL]
  have hlast : d'.last.L.length = d.last.L.length := by show d'.L.length = d.L.length; rw [hL]
  have hlg : ∀ i, d'.last.get i = d.last.get i := fun i => by rw [last_get, last_get, hL]
  have hfit' : l.fit d' := h.fit.disk (by rw [hL])
  refine ⟨⟨hfit'.n2, hfit'.nd, hfit'.epoch, hfit'.gen, by simp only; omega, by simp only; omega, hfit'.err, takeH_ok hfit'.H (by rw [show ({ l with next := l.next + pcs.length, H := takeH l.H ps } : Lg).homes d' = l.homes d from hh]; exact ht) hb⟩, hok, ?_, ?_, ?_, ?_, ?_⟩
  · have hb := h.base
    refine ⟨hb.hd.same fun i _ => hlg i, ?_, fun q hq => (hlg _).trans (hb.slots q hq), hb.room, hb.fle, hb.stop.imp id fun hs => stepB_same' hlast ?_ (fun c _ _ => pieceB_same (hlg _)) hs, fun c q c1 c2 hq => hb.old c q c1 c2 ((pieceB_same (hlg _)).symm.trans hq)⟩
    · have : ({ l with next := l.next + pcs.length, H := takeH l.H ps } : Lg).homes d'.last = l.homes d.last := by show d'.last.L.length - 2 - l.n = d.last.L.length - 2 - l.n; rw [hlast]
      rw [this]
      exact hb.rise
    · show l.tail ≤ endCt l.tail D
      omega
  · show d'.Q = ringQ l.n (allPcs (endCt l.tail D) (P ++ [⟨l.epoch, ps⟩]))
    rw [hQ, h.q, allPcs_append, ← hn.2.1]
    unfold ringQ
    rw [List.map_append, hpc]
    show _ = _ ++ List.map _ ((⟨l.epoch, ps⟩ : Rc).pcs l.next ++ [])
    rw [List.append_nil]
  · show Goods (l.homes d') l.epoch (endCt l.tail D) (P ++ [⟨l.epoch, ps⟩])
    rw [hh]
    refine (goods_append P _ _).2 ⟨h.gs, rfl, ⟨ht, hb, ?_⟩, trivial⟩
    rw [← hn.2.1, hc, hpc]
  · show l.next + pcs.length = endCt l.tail (D ++ (P ++ [⟨l.epoch, ps⟩]))
    rw [← List.append_assoc, endCt_append, ← h.nx, hlen]
    rfl
  · show takeH l.H ps = applyH (fun _ => none) (D ++ (P ++ [⟨l.epoch, ps⟩]))
    rw [← List.append_assoc, applyH_append, ← h.H]
    rfl
theorem flush_get {d d' : Dsk} (hL : d'.L = laid d.Q d.L) (hQ : d'.Q = []) {i : Nat} (hi : i < d.L.length) : d'.get i = d.get i := by
  show seenQ d'.Q i (d'.L.getD i []) = seenQ d.Q i (d.L.getD i [])
  rw [hQ, hL, laid_get _ _ _ hi]
  rfl
theorem last_of_none {d : Dsk} (hQ : d.Q = []) : d.last = d := by
  obtain ⟨L, Q, f, a, b⟩ := d
  simp only at hQ
  subst hQ
  rfl
theorem Rg.flush {d d' : Dsk} {l : Lg} {F : Nat} {D P : List Rc} (h : Rg d l F D P) (hL : d'.L = laid d.Q d.L) (hQ : d'.Q = []) (hok : d'.ok) : Rg d' l F (D ++ P) [] := by
  have hlen : d'.L.length = d.L.length := by rw [hL, laid_len]
  have hh : l.homes d' = l.homes d := by unfold Lg.homes; rw [hlen]
  have hn := h.next
  have hnd := h.fit.nd
  have hn2 := h.fit.n2
  have hlt : ∀ c, 2 + c % l.n < d.L.length := fun c => by have := Nat.mod_lt c (show 0 < l.n by omega); omega
  refine ⟨h.fit.disk hlen, hok, ?_, by rw [hQ]; rfl, trivial, by rw [List.append_nil]; exact h.nx, by rw [List.append_nil]; exact h.H⟩
  rw [last_of_none hQ]
  have hb := h.base
  have hnx : endCt l.tail (D ++ P) = l.next := h.nx.symm
  refine ⟨hb.hd.same fun i hi => ?_, by rw [hh]; exact h.rise, fun q hq => ?_, by rw [hnx]; exact h.fit.next, ?_, ?_, fun c q c1 c2 hq => ?_⟩
  · rw [flush_get hL hQ (by omega)]
    exact h.rest fun q hq => by omega
  · rw [flush_get hL hQ (hlt _)]
    exact h.slot q hq
  · rw [lastF_append]
    by_cases hP : P = []
    · subst hP
      exact hb.fle
    · rw [lastF_goods P _ _ h.gs hP]
      exact Nat.le_refl _
  · rw [lastF_append]
    by_cases hP : P = []
    · subst hP
      rw [List.append_nil]
      refine hb.stop.imp id fun hs => stepB_same' (d := d.last) (by show d'.L.length = d.last.L.length; exact hlen) (by show l.tail ≤ endCt l.tail D; omega) (fun c c1 c2 => pieceB_same ?_) hs
      have e : d'.get (2 + c % l.n) = d.last.get (2 + c % l.n) := by
        rw [flush_get hL hQ (hlt _)]
        exact h.rest fun q hq => by cases hq
      exact e
    · exact .inl (lastF_goods P _ _ h.gs hP)
  · rw [hnx] at c1
    have e : pieceB d' l.n c = pieceB d.last l.n c := pieceB_same (by
      rw [flush_get hL hQ (hlt _)]
      exact h.restC (by omega) c2 (.inr c1))
    rw [e] at hq
    exact hb.old c q (by omega) c2 hq
/-! ### Open -/
theorem newest_ge (d : Dsk) : ∀ k i, i < k → (endsB (d.get i)).1 ≤ newestB d k ∧ (endsB (d.get i)).2 ≤ newestB d k
  | k + 1, i, h => by
    simp only [newestB]
    by_cases hi : i = k
    · subst hi
      omega
    · have := newest_ge d k i (by omega)
      omega
theorem newest_seal {d : Dsk} {k i : Nat} {q : Pc} (hi : i < k) (hq : q.ok) (h : d.get i = sealB q) : q.ep ≤ newestB d k := by
  have := newest_ge d k i hi
  rw [h, ends_seal hq] at this
  exact this.1
theorem lastF_mem : ∀ (rs : List Rc) (ct f : Nat), rs ≠ [] → ∃ q ∈ allPcs ct rs, q.ep = lastF f rs
  | [], _, _, h => absurd rfl h
  | [r], ct, f, _ => ⟨_, List.mem_append_left _ (List.mem_of_getElem? (r.get ct (i := 0) r.pos)), rfl⟩
  | r :: s :: rs, ct, f, _ => by
    obtain ⟨q, hq, h⟩ := lastF_mem (s :: rs) (ct + r.n) r.ep (by simp)
    exact ⟨q, List.mem_append_right _ hq, h⟩
theorem stepB_epoch {d : Dsk} {l l' : Lg} {f : Nat} (h1 : l'.n = l.n) (h2 : l'.tail = l.tail) (h3 : l'.next = l.next) : stepB d l f = none → stepB d l' f = none := by
  intro hs
  have hr : l'.recordB d f = l.recordB d f := by unfold Lg.recordB Lg.free; rw [h1, h2, h3]
  have hh : l'.homes d = l.homes d := by unfold Lg.homes; rw [h1]
  unfold stepB at hs ⊢
  rw [hr, hh]
  cases hj : joinB (l.recordB d f) with
  | none => rfl
  | some b =>
    rw [hj] at hs
    simp only at hs ⊢
    cases hd : decB b (l.homes d) with
    | none => rfl
    | some ps => rw [hd] at hs; cases hs
theorem headPc_ok {ep : Nat} {h : Hd} (he : ep ≤ 16777215) (hg : h.gen ≤ 1099511627775) : (headPc ep h).ok := ⟨he, hg, by
  show (headD h.tail h.floor).length ≤ 106
  simp [headD, pack_len, bitsN_len]⟩
/-- What a disk says where nothing waits. -/
theorem open_base {d : Dsk} {n gen tail F : Nat} {D : List Rc} {E : Nat} (hd : d.ok) (hn2 : 2 ≤ n) (hnd : n + 3 ≤ d.L.length) (hh : HeadIs d gen tail F) (hr : Rise (d.L.length - 2 - n) tail F D) (hs : ∀ q ∈ allPcs tail D, d.get (2 + q.ct % n) = sealB q) (hroom : endCt tail D ≤ tail + n)
    (hst : stepB d (Lg.behind (log0 n E gen tail) D) (lastF F D) = none) (hnew : newestB d (2 + n) < 16777215) : openB d n = some (Lg.behind (log0 n (newestB d (2 + n) + 1) gen tail) D) := by
  have key : ∀ (o : Option Hd), d.head 0 = o → (o.getD hd0).gen = gen → (o.getD hd0).tail = tail → (if o.isSome = true then (o.getD hd0).floor else 1) = F → openB d n = some (Lg.behind (log0 n (newestB d (2 + n) + 1) gen tail) D) := by
    intro o ho h1 h2 h3
    unfold openB
    rw [if_neg (by omega), ho, h1, h2, h3]
    congr 1
    have hle := endCt_le D tail
    exact replay_stop (l := log0 n (newestB d (2 + n) + 1) gen tail) (homes_le hd) ((chain_iff _ _ _ _ _ _).2 ⟨hr, hs⟩) (Nat.le_refl _) hroom (stepB_epoch (l := Lg.behind (log0 n E gen tail) D) (l' := Lg.behind (log0 n (newestB d (2 + n) + 1) gen tail) D) rfl rfl rfl hst)
  rcases hh with ⟨hh, -⟩ | ⟨hh, rfl, rfl, rfl⟩
  · exact key _ hh rfl rfl rfl
  · exact key _ hh rfl rfl rfl
theorem base_stop {d : Dsk} {l : Lg} {F : Nat} {D : List Rc} (h : Base d l F D) (hle : l.tail ≤ endCt l.tail D) : stepB d (Lg.behind (log0 l.n l.epoch l.gen l.tail) D) (lastF F D) = none := by
  refine h.stop.elim (fun he => ?_) id
  refine step_old (d := d) (d' := d) (E := l.epoch) rfl hle (.inl he) (fun c q h1 h2 hq => h.old c q h1 h2 hq) (fun c _ _ => .inl rfl) fun _ => .inl rfl
/-- Open of a disk where nothing waits: the same homes, a new epoch. -/
theorem Rg.open_ {d : Dsk} {l : Lg} {F : Nat} {D : List Rc} (h : Rg d l F D []) (hnew : newestB d (2 + l.n) < 16777215) :
    ∃ l2, openB d l.n = some l2 ∧ l2.n = l.n ∧ l2.H = l.H ∧ l2.next = l.next ∧ l2.tail = l.tail ∧ l2.gen = l.gen ∧ l2.epoch = newestB d (2 + l.n) + 1 ∧ l2.err = 0 ∧ Rg d l2 F D [] := by
  have hQ : d.Q = [] := h.q
  have hb := h.base
  rw [last_of_none hQ] at hb
  have hn := h.next
  have hnx : l.next = endCt l.tail D := by have := h.nx; rwa [List.append_nil] at this
  have hH : l.H = applyH (fun _ => none) D := by have := h.H; rwa [List.append_nil] at this
  have hst := base_stop hb hn.2.2
  have ho := open_base h.dok h.fit.n2 h.fit.nd hb.hd hb.rise hb.slots hb.room hst hnew
  refine ⟨_, ho, rfl, hH.symm, hnx.symm, rfl, rfl, rfl, rfl, ?_⟩
  have hslots : ∀ q ∈ allPcs l.tail D, q.ep ≤ newestB d (2 + l.n) := fun q hq => newest_seal (i := 2 + q.ct % l.n) (by have := Nat.mod_lt q.ct (show 0 < l.n by have := h.fit.n2; omega); omega) (rise_ok D _ _ hb.rise q hq) (hb.slots q hq)
  refine ⟨open_fit h.dok h.fit.n2 h.fit.nd ho, h.dok, ?_, hQ, trivial, by rw [List.append_nil]; rfl, by rw [List.append_nil]; rfl⟩
  rw [last_of_none hQ]
  refine ⟨hb.hd, hb.rise, hb.slots, hb.room, ?_, .inr (stepB_epoch (l := Lg.behind (log0 l.n l.epoch l.gen l.tail) D) (l' := Lg.behind (log0 l.n (newestB d (2 + l.n) + 1) l.gen l.tail) D) rfl rfl rfl hst), fun c q h1 h2 hq => ?_⟩
  · show lastF F D ≤ newestB d (2 + l.n) + 1
    by_cases hD : D = []
    · subst hD
      show F ≤ _
      rcases hb.hd with ⟨_, i, hi, hi2⟩ | ⟨_, _, _, rfl⟩
      · by_cases hF : F ≤ 16777215
        · have := newest_seal (k := 2 + l.n) (by omega) (headPc_ok hF h.fit.gen) hi2
          have : F ≤ newestB d (2 + l.n) := this
          omega
        · have := hb.fle
          have := h.fit.epoch
          have h3 : F ≤ l.epoch := hb.fle
          omega
      · omega
    · obtain ⟨q, hq, he⟩ := lastF_mem D l.tail F hD
      have := hslots q hq
      omega
  · show q.ep < newestB d (2 + l.n) + 1
    obtain ⟨hg, rfl⟩ := pieceB_get hq
    have hi : 2 + q.ct % l.n < 2 + l.n := by have := Nat.mod_lt q.ct (show 0 < l.n by have := h.fit.n2; omega); omega
    have hqok : q.ok := (pieceB_ok (n := l.n) h.dok (by have := h.fit.n2; omega) (by have := h.fit.nd; omega) hq).1
    have := newest_seal hi hqok hg
    omega
end Go.Proofs.Ytbkblhoagfonjaa

/- Bytes, puts that a law is handed. -/
namespace Go.Proofs.Ytbkblhoagfonjaa
open Go.ChangeShapes Go.WideShapes Go.ChangeAt Go.RowKit Go.Tn Go.Joins Go.Tn.Bt Go.Tn.Lp Go.Tn.Dk

theorem Try.own : ownKnob Try.prog.godebug = none := by kernel_rfl
theorem Try.laidOut : laidOutB Try.prog = true := by kernel_rfl
theorem flatU8 : flat Try.prog 1 5 = some [5] := by kernel_rfl
theorem cellsU8 : Try.prog.cellsOf 5 = [5].length := by kernel_rfl
theorem flatPut : flat Try.prog 3 60 = some [3, 33] := by kernel_rfl
theorem cellsPut : Try.prog.cellsOf 60 = [3, 33].length := by kernel_rfl
section
variable {H : Type} {enc : TypeId × Value → H} {w : World} {base : Nat} {spare : Nat → Bool} {held : Bool}
theorem wf_u8_bounds {n : Int} (h : (Lit.int .u8 n).wf = true) : 0 ≤ n ∧ n ≤ 255 := by
  simp [Lit.wf, IntKind.min, IntKind.max, IntKind.signed, IntKind.bits] at h
  omega
theorem bytes_of {ao : Option Addr} {n cap : Nat} {x : DataW H} {ps : List MemPlace} (h : DataW.Trod enc Try.prog w base spare held 33 (.slice ao n cap) x ps) :
    ∃ bs : List Nat, LSl en8 1 w (.slice ao n cap) bs ∧ ∀ x ∈ bs, x < 256 := by
  rcases open_flat Try.underlying33 flatU8 cellsU8 (by decide) h ⟨_, _, _, rfl⟩ with hv | ⟨b, off, spot, len, cap', hv, hl, hm, hin, hc⟩
  · cases hv
    exact ⟨[], LSl.nil w, fun x hx => by cases hx⟩
  · cases hv
    have hex : ∀ i : Nat, ∃ z : Nat, z < 256 ∧ (i < n → w.cell? ⟨b, off + i, none⟩ = some (.int .u8 (z : Nat))) := fun i => by
      by_cases hi : i < n
      · obtain ⟨c, h1, h2⟩ := hc i hi 0 5 rfl
        obtain ⟨z, rfl, hz⟩ := h2.int Try.underlying5
        have hz := wf_u8_bounds hz
        refine ⟨z.toNat, by omega, fun _ => ?_⟩
        rw [show ((z.toNat : Nat) : Int) = z by omega]
        simpa using h1
      · exact ⟨0, by decide, fun h => absurd h hi⟩
    have hlen : ((List.range n).map fun i => Classical.choose (hex i)).length = n := by simp
    refine ⟨(List.range n).map fun i => Classical.choose (hex i), ⟨_, cap, by rw [hlen], by rw [hlen]; exact hl, hm, fun h0 => ?_⟩, fun x hx => ?_⟩
    · rw [hlen] at h0
      refine ⟨b, off, by rw [(hin h0).1], (hin h0).2, fun i y hi => ?_⟩
      have hlt : i < n := by
        have := (List.getElem?_eq_some_iff.1 hi).1
        rwa [hlen] at this
      have hy : Classical.choose (hex i) = y := by simpa [hlt] using hi
      rw [← hy]
      intro j hj
      have hj0 : j = 0 := by simpa using hj
      subst hj0
      have := (Classical.choose_spec (hex i)).2 hlt
      simpa using this
    · obtain ⟨i, _, rfl⟩ := List.mem_map.1 hx
      exact (Classical.choose_spec (hex i)).1
theorem CellOk.bytes {c : Value} (h : CellOk enc Try.prog w base spare held 33 c) : ∃ a n cap bs, c = .slice a n cap ∧ LSl en8 1 w (.slice a n cap) bs ∧ ∀ x ∈ bs, x < 256 := by
  obtain ⟨m, ⟨x, ps⟩, h⟩ := h
  have hsh : ∃ a n cap, c = .slice a n cap := by
    rcases Go.Deep.open_slice Try.underlying33 h with ⟨hcs, _⟩ | ⟨⟨b, off, spot⟩, len, cap, m, n, D, Pl, hcs, _⟩
    · exact ⟨_, _, _, by simpa using hcs⟩
    · exact ⟨_, _, _, by simpa using hcs⟩
  obtain ⟨a, n, cap, rfl⟩ := hsh
  obtain ⟨bs, h1, h2⟩ := bytes_of (x := x) (ps := ps) ⟨m, h⟩
  exact ⟨a, n, cap, bs, rfl, h1, h2⟩
theorem puts_of {ao : Option Addr} {n cap : Nat} {x : DataW H} {ps : List MemPlace} (h : DataW.Trod enc Try.prog w base spare held 22 (.slice ao n cap) x ps) :
    ∃ qs : List Pt, PtsI w (.slice ao n cap) qs ∧ ∀ p ∈ qs, ∀ x ∈ p.2, x < 256 := by
  rcases open_flat Try.underlying22 flatPut cellsPut (by decide) h ⟨_, _, _, rfl⟩ with hv | ⟨b, off, spot, len, cap', hv, hl, hm, hin, hc⟩
  · cases hv
    exact ⟨[], ⟨[], rfl, LSl.nil w, fun x hx => by cases hx⟩, fun x hx => by cases hx⟩
  · cases hv
    have hex : ∀ i : Nat, ∃ y : Pt × Sv, i < n → Lies w b (off + i * 2) (enPt y).toArray ∧ LSl en8 1 w (sv y.2) y.1.2 ∧ ∀ x ∈ y.1.2, x < 256 := fun i => by
      by_cases hi : i < n
      · obtain ⟨c0, h1, h2⟩ := hc i hi 0 3 rfl
        obtain ⟨z, rfl, _⟩ := h2.int Try.underlying3
        obtain ⟨c1, h3, h4⟩ := hc i hi 1 33 rfl
        obtain ⟨a, k, cp, bs, rfl, h5, h6⟩ := CellOk.bytes h4
        refine ⟨((z, bs), (a, k, cp)), fun _ => ⟨fun j hj => ?_, h5, h6⟩⟩
        have hj2 : j < 2 := by simpa [enPt] using hj
        match j, hj2 with
        | 0, _ => exact h1
        | 1, _ => exact h3
      · exact ⟨((0, []), (none, 0, 0)), fun h => absurd h hi⟩
    have hlen : ((List.range n).map fun i => Classical.choose (hex i)).length = n := by simp
    have hget : ∀ i y, ((List.range n).map fun i => Classical.choose (hex i))[i]? = some y → i < n ∧ Classical.choose (hex i) = y := fun i y hi => by
      have hlt : i < n := by
        have := (List.getElem?_eq_some_iff.1 hi).1
        rwa [hlen] at this
      exact ⟨hlt, by simpa [hlt] using hi⟩
    refine ⟨((List.range n).map fun i => Classical.choose (hex i)).map (·.1), ⟨(List.range n).map fun i => Classical.choose (hex i), rfl, ⟨_, cap, by rw [hlen], by rw [hlen]; exact hl, hm, fun h0 => ?_⟩, fun y hy => ?_⟩, fun p hp => ?_⟩
    · rw [hlen] at h0
      refine ⟨b, off, by rw [(hin h0).1], (hin h0).2, fun i y hi => ?_⟩
      obtain ⟨hlt, hy⟩ := hget i y hi
      rw [← hy]
      exact (Classical.choose_spec (hex i) hlt).1
    · obtain ⟨i, hi⟩ := List.mem_iff_getElem?.1 hy
      obtain ⟨hlt, hy⟩ := hget i y hi
      rw [← hy]
      exact (Classical.choose_spec (hex i) hlt).2.1
    · obtain ⟨y, hy, rfl⟩ := List.mem_map.1 hp
      obtain ⟨i, hi⟩ := List.mem_iff_getElem?.1 hy
      obtain ⟨hlt, hy⟩ := hget i y hi
      rw [← hy]
      exact (Classical.choose_spec (hex i) hlt).2.2
end
end Go.Proofs.Ytbkblhoagfonjaa

/- The document's Within, Few; the disk's Waits: walked. -/
namespace Go.Proofs.Ytbkblhoagfonjaa
open Go.RowKit Go.Tn Go.Tn.Bt Go.Tn.Lp Go.Tn.Dk
def within (x a b : Int) : Int := if x < a then a else if b < x then b else x
theorem within_any (w : World) (x a b : Int) : Calls Try.prog 7 #[.int .i64 x, .int .i64 a, .int .i64 b] w fun e w' => e = .returned (.int .i64 (within x a b)) ∧ w' = w := by
  unfold within
  by_cases h1 : x < a
  · have hd1 : decide (x < a) = true := by simp [h1]
    rw [if_pos h1]
    go_enter Try.func7, Try.ntmps7
    go_wp2
    go_ret
    exact ⟨rfl, rfl⟩
  · have hd1 : decide (x < a) = false := by simp; omega
    rw [if_neg h1]
    by_cases h2 : b < x
    · have hd2 : decide (b < x) = true := by simp [h2]
      rw [if_pos h2]
      go_enter Try.func7, Try.ntmps7
      go_wp2
      go_ret
      exact ⟨rfl, rfl⟩
    · have hd2 : decide (b < x) = false := by simp; omega
      rw [if_neg h2]
      go_enter Try.func7, Try.ntmps7
      go_wp2
      go_ret
      exact ⟨rfl, rfl⟩
theorem within_nat (n : Int) {a b : Nat} (h : a ≤ b) : ∃ m : Nat, within n a b = m ∧ a ≤ m ∧ m ≤ b := by
  unfold within
  split
  · exact ⟨a, rfl, Nat.le_refl _, h⟩
  · split
    · exact ⟨b, rfl, h, Nat.le_refl _⟩
    · exact ⟨n.toNat, by omega, by omega, by omega⟩
/-- At most n puts, their data a sector's each, unless odd. -/
def fewP (odd : Bool) (p : Pt) : Pt := (p.1, if odd = true then p.2.take 130 else rsecB p.2)
def fewB (ps : List Pt) (n : Nat) (odd : Bool) : List Pt := (ps.take n).map (fewP odd)
theorem few_snoc {ps : List Pt} {k : Nat} {x : Pt} (odd : Bool) (h : ps[k]? = some x) : (ps.take (k + 1)).map (fewP odd) = (ps.take k).map (fewP odd) ++ [fewP odd x] := by
  rw [take_snoc h, List.map_append]
  rfl
theorem PtsO.shape {B : Nat} {w : World} {v : Value} {ps : List Pt} (h : PtsO B w v ps) : ∃ a n c, v = .slice a n c := by
  obtain ⟨xs, -, hO, -⟩ := h
  exact hO.shape
set_option maxRecDepth 20000 in
set_option maxHeartbeats 4000000 in
theorem few_any (w : World) (v : Value) (ps : List Pt) (hp : PtsI w v ps) (n : Nat) (hn : n ≤ 1000) (odd : Bool) :
    Calls Try.prog 6 #[v, .int .i64 n, .bool odd] w fun e w' => ∃ v', e = .returned v' ∧ PtsO w.heap.size w' v' (fewB ps n odd) ∧ Below w.heap.size w w' := by
  obtain ⟨xs, hxs, hL, hD⟩ := hp
  have hxl : xs.length = ps.length := by rw [← hxs]; simp
  obtain ⟨ao, cap, rfl, h1, h2, h3⟩ := hL
  rw [hxl] at h1 h3 ⊢
  unfold maxLen at h2
  have HXS := Lib.hid hxs
  have HD := Lib.hid hD
  have HXL := Lib.hid hxl
  clear hxs hD hxl
  have hn63 : (n : Int) ≤ 1000 := by omega
  have hl63 : (ps.length : Int) ≤ 9223372036854775807 := by omega
  go_enter Try.func6, Try.ntmps6
  go_wp2_with fail
  go_loopw [7, 8] (fun ov iv wi => ∃ k : Nat, k ≤ ps.length ∧ k ≤ n ∧ iv = .int .i64 k ∧ Below w.heap.size w wi ∧ PtsO w.heap.size wi ov ((ps.take k).map (fewP odd))) (fun _ iv _ => ps.length - (intOf iv).toNat)
  case atStart => exact ⟨0, Nat.zero_le _, Nat.zero_le _, rfl, Below.refl _ _, [], rfl, LOut.nil (Nat.le_refl _), fun x hx => by cases hx⟩
  case round =>
    obtain ⟨k, hk, hkn, rfl, hb, hO⟩ := hrel
    by_cases hkl : k < ps.length ∧ k < n
    · obtain ⟨hkl, hkn'⟩ := hkl
      have hkl' : decide (k < ps.length) = true := by simp [hkl]
      have hkn'' : decide (k < n) = true := by simp [hkn']
      obtain ⟨x, hx⟩ : ∃ x, xs[k]? = some x := ⟨_, List.getElem?_eq_getElem (by rw [HXL.out]; exact hkl)⟩
      obtain ⟨b, off, rfl, hbl, hcells⟩ := h3 (by omega)
      have hlies := (hcells k x hx).below' hb hbl
      have hpx : ps[k]? = some x.1 := by rw [← HXS.out, List.getElem?_map, hx]; rfl
      have hdx := (HD.out x (List.mem_of_getElem? hx)).below hb
      have hsn := few_snoc odd hpx
      obtain ⟨⟨at_, dat⟩, ⟨a1, n1, c1⟩⟩ := x
      have q0 : wr.cell? ⟨b, off + k * 2, none⟩ = some (.int .i64 at_) := hlies 0 (by simp [enPt])
      have q1 : wr.cell? ⟨b, off + k * 2 + 1, none⟩ = some (.slice a1 n1 c1) := hlies 1 (by simp [enPt])
      have hbr : b < wr.heap.size := Nat.lt_of_lt_of_le hbl hb.size
      have hsc := rsector_any wr _ dat hdx
      have HSN := Lib.hid hsn
      have HB := Lib.hid hb
      have HO := Lib.hid hO
      clear hx hcells hlies hpx hsn hb hO
      have hO' := HO.out
      obtain ⟨xs5, hxs5, hO5, hD5⟩ := hO'
      have hx5 : xs5.length = k := by
        have := congrArg List.length hxs5
        rw [List.length_map, List.length_map, List.length_take] at this
        omega
      have hol : xs5.length ≤ 1000000000 := by omega
      obtain ⟨a7, n7, c7, rfl⟩ := hO5.shape
      have HXS5 := Lib.hid hxs5
      have HO5 := Lib.hid hO5
      have HD5 := Lib.hid hD5
      clear hxs5 hO5 hD5 HO hx5
      have hPd : (fewP odd (at_, dat)).2 = if odd = true then dat.take 130 else rsecB dat := rfl
      have hP1 : fewP odd (at_, dat) = (at_, (fewP odd (at_, dat)).2) := rfl
      generalize (fewP odd (at_, dat)).2 = dd at *
      rw [hP1] at HSN
      clear hP1
      have HPD := Lib.hid hPd
      clear hPd
      go_wp2_with fail
      refine hsc.mono ?_
      rintro e w8 ⟨v8, rfl, hO8, hb8⟩
      clear hsc
      obtain ⟨a8, n8, c8, rfl⟩ := LOut.shape hO8
      have q0' : w8.cell? ⟨b, off + k * 2, none⟩ = some (.int .i64 at_) := (hb8.cell (p := ⟨b, off + k * 2, none⟩) hbr).trans q0
      have q1' : w8.cell? ⟨b, off + k * 2 + 1, none⟩ = some (.slice a1 n1 c1) := (hb8.cell (p := ⟨b, off + k * 2 + 1, none⟩) hbr).trans q1
      have hbr8 : b < w8.heap.size := Nat.lt_of_lt_of_le hbr hb8.size
      have hcu := rcut_any w8 _ dat (LSl.below hdx hb8) 130 (by omega)
      have HB8 := Lib.hid hb8
      clear q0 q1 hb8
      have key : ∀ (a9 : Option Addr) (n9 c9 : Nat) (w9 : World), LOut en8 1 5 wr.heap.size w9 (.slice a9 n9 c9) dd → Below wr.heap.size wr w9 → ∀ v w', LOut enPt 2 60 w.heap.size w' v (xs5 ++ [((at_, dd), (a9, n9, c9))]) → Mod (fun b => (Value.slice a7 n7 c7).ownBlock = some b) w9 w' → (v.ownBlock = (Value.slice a7 n7 c7).ownBlock ∨ ∃ r, v.ownBlock = some r ∧ w9.heap.size ≤ r) →
          Below w.heap.size w w' ∧ PtsO w.heap.size w' v ((ps.take (k + 1)).map (fewP odd)) := by
        intro a9 n9 c9 w9 hO9 hb9 v w' hO' hm' hv'
        have hlo := HO5.out.lo
        refine ⟨(HB.out.trans (hb9.mono HB.out.size)).trans (hm'.below (Nat.le_trans HB.out.size hb9.size) fun x hx e => by have := hlo x e; omega), xs5 ++ [((at_, dd), (a9, n9, c9))], ?_, hO', ?_⟩
        · rw [HSN.out, List.map_append, HXS5.out]
          rfl
        · refine DatG.push (HD5.out.below hb9) (HO5.out.below hb9) (hO9.sl el8.len) (fun r hr => ?_) hm' hv'
          have h1 := hO9.lo r hr
          have h2 := hO9.lt hr
          refine ⟨Nat.le_trans HB.out.size h1, h2, fun e => ?_⟩
          have := HO5.out.lt e
          omega
      have HKEY := Lib.hid key
      clear key
      cases odd with
      | false =>
        have hdd : dd = rsecB dat := by rw [HPD.out]; rfl
        rw [← hdd] at hO8
        have HO8 := Lib.hid hO8
        clear hO8 hcu hdd
        go_wp2_with (first
          | ((with_reducible refine wpList_execW (exec_buildSliceA (k := 2) (cells := #[.int .i64 at_, .slice a8 n8 c8]) Try.underlying22 (by kernel_rfl) (by omega) (by omega) rfl ?_) ?_ ?_); rfl; rfl; go_frame)
          | ((with_reducible refine wpList_append1Y elPt (HO5.out.below HB8.out) ((at_, dd), (a8, n8, c8)) hol ?_ ?_ ?_ ?_); rfl; rfl; rfl; (intro v9 w9 hO9 hm9 hv9; have HR := Lib.hid (HKEY.out a8 n8 c8 w8 HO8.out HB8.out v9 w9 hO9 hm9 hv9); clear hO9 hm9 hv9); go_frame)
          | fail)
        have hr := HR.out
        go_roundw
        case rel => exact ⟨k + 1, by omega, by omega, by go_num, hr.1, hr.2⟩
        case measure => simp [intOf]; omega
      | true =>
        have hdd : dd = dat.take 130 := by rw [HPD.out]; rfl
        clear hO8
        go_wp2_with fail
        refine hcu.mono ?_
        rintro e w9 ⟨v9, rfl, h9, hw⟩
        obtain rfl := hw.symm
        clear hw hcu
        have hcp := rcopy_any w8 _ _ h9 (by simp; omega)
        rw [← hdd] at hcp
        clear h9 hdd
        go_wp2_with fail
        refine hcp.mono ?_
        rintro e w9 ⟨v9, rfl, hO9, hb9⟩
        obtain ⟨a9, n9, c9, rfl⟩ := LOut.shape hO9
        clear hcp
        have q0 : w9.cell? ⟨b, off + k * 2, none⟩ = some (.int .i64 at_) := (hb9.cell (p := ⟨b, off + k * 2, none⟩) hbr8).trans q0'
        have HO9 := Lib.hid (hO9.mono HB8.out.size)
        have HB9 := Lib.hid (HB8.out.trans (hb9.mono HB8.out.size))
        clear q0' q1' hO9 hb9
        go_wp2_with (first
          | ((with_reducible refine wpList_execW (exec_buildSliceA (k := 2) (cells := #[.int .i64 at_, .slice a9 n9 c9]) Try.underlying22 (by kernel_rfl) (by omega) (by omega) rfl ?_) ?_ ?_); rfl; rfl; go_frame)
          | ((with_reducible refine wpList_append1Y elPt (HO5.out.below HB9.out) ((at_, dd), (a9, n9, c9)) hol ?_ ?_ ?_ ?_); rfl; rfl; rfl; (intro v10 w10 hO10 hm10 hv10; have HR := Lib.hid (HKEY.out a9 n9 c9 w9 HO9.out HB9.out v10 w10 hO10 hm10 hv10); clear hO10 hm10 hv10); go_frame)
          | fail)
        have hr := HR.out
        go_roundw
        case rel => exact ⟨k + 1, by omega, by omega, by go_num, hr.1, hr.2⟩
        case measure => simp [intOf]; omega
    · have hfin : (ps.take k).map (fewP odd) = fewB ps n odd := by
        unfold fewB
        congr 1
        by_cases h : k < ps.length
        · rw [show k = n by omega]
        · rw [List.take_of_length_le (by omega), List.take_of_length_le (by omega)]
      obtain ⟨a7, n7, c7, rfl⟩ := hO.shape
      rw [hfin] at hO
      have HO := Lib.hid hO
      have HB := Lib.hid hb
      clear hO hb hfin
      by_cases h1 : k < ps.length
      · have hd1 : decide (k < ps.length) = true := by simp [h1]
        have hd2 : decide (k < n) = false := by simp; omega
        go_wp2
        go_ret
        exact ⟨_, rfl, HO.out, HB.out⟩
      · have hd1 : decide (k < ps.length) = false := by simp; omega
        go_wp2
        go_ret
        exact ⟨_, rfl, HO.out, HB.out⟩
end Go.Proofs.Ytbkblhoagfonjaa

/- A new disk's log, in plain words. -/
namespace Go.Proofs.Ytbkblhoagfonjaa
open Go.RowKit Go.Tn Go.Tn.Bt Go.Tn.Lp Go.Tn.Dk
theorem newd_get {k i : Nat} (hi : i < k) : (newD k).get i = zeroS := by
  unfold Dsk.get newD seenQ
  simp [hi]
set_option maxRecDepth 100000 in
theorem ends_zero : endsB zeroS = (0, 0) := by decide +kernel
set_option maxRecDepth 100000 in
theorem unseal_zero0 : (unsealB zeroS).map (fun p => (p.ep, p.ct, p.fi, p.la, p.da)) = some (0, 0, false, false, []) := by decide +kernel
theorem unseal_zero : unsealB zeroS = some ⟨0, 0, false, false, []⟩ := by
  have h := unseal_zero0
  cases hu : unsealB zeroS with
  | none => rw [hu] at h; cases h
  | some p =>
    rw [hu] at h
    obtain ⟨a, b, c, d, e⟩ := p
    simp at h
    obtain ⟨rfl, rfl, rfl, rfl, rfl⟩ := h
    rfl
theorem newest_zero (k : Nat) : ∀ j, j ≤ k → newestB (newD k) j = 0
  | 0, _ => rfl
  | j + 1, h => by
    unfold newestB
    rw [newest_zero k j (by omega), newd_get (by omega), ends_zero]
    rfl
theorem hd_zero (i : Nat) : hdB zeroS i = none := by
  unfold hdB
  rw [unseal_zero]
  simp [headP]
theorem head_zero {k a : Nat} (h : a + 1 < k) : (newD k).head a = none := by
  unfold Dsk.head
  rw [newd_get (by omega), newd_get h, hd_zero, hd_zero]
  rfl
theorem rec_zero {k n ep g f : Nat} (hn : 2 ≤ n) (hk : n + 3 ≤ k) : (log0 n ep g 0).recordB (newD k) f = [] := by
  have hp : pieceB (newD k) n 0 = some ⟨0, 0, false, false, []⟩ := by
    unfold pieceB
    rw [Nat.zero_mod, newd_get (by omega), unseal_zero]
    rfl
  unfold Lg.recordB
  have hfr : (log0 n ep g 0).free = (n - 1) + 1 := by
    show n - (0 - 0) = _
    omega
  rw [hfr]
  show recGo (newD k) n 0 f (n - 1 + 1) [] = []
  unfold recGo
  rw [show 0 + ([] : List Pc).length = 0 from rfl, hp]
  simp
theorem open_new {k n : Nat} (hn : 2 ≤ n) (hk : n + 3 ≤ k) : openB (newD k) n = some (log0 n 1 0 0) := by
  unfold openB
  rw [newest_zero k (2 + n) (by omega), if_neg (by omega), head_zero (by omega)]
  simp only [Option.getD_none, Option.isSome_none]
  unfold replayL
  have hh : hd0.gen = 0 ∧ hd0.tail = 0 := ⟨rfl, rfl⟩
  rw [hh.1, hh.2, if_neg (by decide)]
  unfold replayGo
  rw [rec_zero hn hk]
  rfl
end Go.Proofs.Ytbkblhoagfonjaa
