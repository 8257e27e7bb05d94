/- What is kept of a block: plain. No program. -/
import Derived.Test.YtldimgchpgoggaaGreatMgQuo18
import Derived.Test.YtldimgchpgoggaaGreatMgQuo21
import Derived.Test.YtldimgchpgoggaaGreatMgQuo19
import Derived.Test.YtldimgchpgoggaaGreatMgQuo11
import Derived.Test.YtldimgchpgoggaaGreatMgQuo6
/- Checkpoint where no fuse burns: all homes are home, the ring is free. Plain. -/
namespace Go.Proofs.YtldimgchpgoggaaGreat
open Go.RowKit Go.Tn Go.Tn.Bt Go.Tn.Lp Go.Tn.Dk
/-- No fuse burns, the power is on. -/
structure _root_.Go.Tn.Dk.Dsk.calm (d : Dsk) : Prop where
  fuse : d.fused = false
  on : d.off = false
theorem _root_.Go.Tn.Dk.Dsk.calm.step {d : Dsk} (h : Dsk.calm d) : d.step = d := by
  unfold Dsk.step
  rw [if_pos (.inr h.fuse)]
theorem _root_.Go.Tn.Dk.Dsk.calm.dead {d : Dsk} (h : Dsk.calm d) : d.dead = 0 := by
  unfold Dsk.dead
  rw [h.step, if_neg (by rw [h.on]; decide)]
theorem _root_.Go.Tn.Dk.Dsk.calm.write {d : Dsk} (h : Dsk.calm d) (i : Nat) (b : List Nat) : d.write i b = { d with Q := d.Q ++ [(i, b)] } := by
  unfold Dsk.write
  rw [h.step, if_neg (by rw [h.on]; decide)]
theorem _root_.Go.Tn.Dk.Dsk.calm.flush {d : Dsk} (h : Dsk.calm d) : d.flush = { d with L := laid d.Q d.L, Q := [] } := by
  unfold Dsk.flush
  rw [h.step, if_neg (by rw [h.on]; decide)]
def homeQ (l : Lg) (ks : List Nat) : List (Nat × List Nat) := ks.map fun k => (2 + l.n + k, (l.H k).getD [])
theorem bringGo_calm (l : Lg) : ∀ (ks : List Nat) (d : Dsk), Dsk.calm d → bringGo l ks d = ({ d with L := laid (d.Q ++ homeQ l ks) d.L, Q := [] }, 0)
  | [], d, h => by
    simp only [bringGo, homeQ, List.map_nil, List.append_nil]
    rw [h.flush, h.dead]
  | k :: ks, d, h => by
    have hc : Dsk.calm { d with Q := d.Q ++ [(2 + l.n + k, (l.H k).getD [])] } := ⟨h.fuse, h.on⟩
    simp only [bringGo]
    rw [if_neg (by rw [h.dead]; decide), h.write, bringGo_calm l ks _ hc]
    simp [homeQ]
theorem save_calm {d : Dsk} (h : Dsk.calm d) (a ep : Nat) (x : Hd) : d.save a ep x = ({ d with L := laid (d.Q ++ [(a + x.gen % 2, sealB (headPc ep x))]) d.L, Q := [] }, 0) := by
  have hc : Dsk.calm { d with Q := d.Q ++ [(a + x.gen % 2, sealB (headPc ep x))] } := ⟨h.fuse, h.on⟩
  unfold Dsk.save
  rw [h.step, if_neg (by rw [h.on]; decide), h.write, hc.flush, hc.dead]
theorem sync_calm {l : Lg} {d : Dsk} (h : Dsk.calm d) (he : l.err = 0) : l.sync d = (l, d.flush) := by
  unfold Lg.sync
  rw [if_neg (by omega), h.dead]
  obtain ⟨a, b, c, e, f, g, i⟩ := l
  simp only at he
  subst he
  rfl
theorem unpack_headD (t f : Nat) : unpack (headD t f) = bitsN t 40 ++ bitsN f 24 := by
  have hl : (bitsN t 40 ++ bitsN f 24).length = 64 := by rw [List.length_append, bitsN_len, bitsN_len]
  have hu := unpack_pack (bitsN t 40 ++ bitsN f 24)
  rw [hl] at hu
  exact hu.trans (List.append_nil _)
theorem headD_nums (t f : Nat) : natOf ((unpack (headD t f)).take 40) = t % 2 ^ 40 ∧ natOf (((unpack (headD t f)).drop 40).take 24) = f % 2 ^ 24 := by
  rw [unpack_headD]
  generalize ha : bitsN t 40 = a
  generalize hb : bitsN f 24 = b
  have la : a.length = 40 := by rw [← ha, bitsN_len]
  have lb : b.length = 24 := by rw [← hb, bitsN_len]
  have e1 : (a ++ b).take 40 = a := by rw [← la, List.take_left]
  have e2 : ((a ++ b).drop 40).take 24 = b := by rw [← la, List.drop_left, ← lb, List.take_length]
  rw [e1, e2, ← ha, ← hb, natOf_bitsN, natOf_bitsN]
  exact ⟨rfl, rfl⟩
theorem headP_headPc {ep : Nat} {h : Hd} {i : Nat} (hi : h.gen % 2 = i) : headP (headPc ep h) i = some ⟨h.gen, natOf ((unpack (headD h.tail h.floor)).take 40), natOf (((unpack (headD h.tail h.floor)).drop 40).take 24)⟩ := by
  have hc : (headPc ep h).fi = true ∧ (headPc ep h).la = true ∧ (headPc ep h).ct % 2 = i ∧ (headPc ep h).da.length = 8 := ⟨rfl, rfl, hi, headD_len _ _⟩
  unfold headP
  rw [if_pos hc]
  rfl
theorem hdB_of {bs : List Nat} {p : Pc} (h : unsealB bs = some p) (i : Nat) : hdB bs i = headP p i := by
  unfold hdB
  rw [h]
theorem headP_some {ep : Nat} {g t f : Nat} (ht : t < 2 ^ 40) (hf : f < 2 ^ 24) {i : Nat} (hi : g % 2 = i) : headP (headPc ep ⟨g, t, f⟩) i = some ⟨g, t, f⟩ := by
  obtain ⟨h1, h2⟩ := headD_nums t f
  rw [Nat.mod_eq_of_lt ht] at h1
  rw [Nat.mod_eq_of_lt hf] at h2
  have hp := headP_headPc (ep := ep) (h := ⟨g, t, f⟩) hi
  simp only at hp
  rw [h1, h2] at hp
  exact hp
theorem hd_seal {ep : Nat} {g t f : Nat} (he : ep ≤ 16777215) (hg : g ≤ 1099511627775) (ht : t < 2 ^ 40) (hf : f < 2 ^ 24) {i : Nat} (hi : g % 2 = i) : hdB (sealB (headPc ep ⟨g, t, f⟩)) i = some ⟨g, t, f⟩ :=
  (hdB_of (unseal_seal (headPc_ok he hg)) i).trans (headP_some ht hf hi)
theorem newer_le {a b : Option Hd} {z : Hd} (h : newer a b = some z) : (∀ x, a = some x → x.gen ≤ z.gen) ∧ ∀ y, b = some y → y.gen ≤ z.gen := by
  unfold newer at h
  cases b with
  | none =>
    simp only at h
    subst h
    exact ⟨fun x hx => (by cases hx; exact Nat.le_refl _), fun y hy => (by cases hy)⟩
  | some y =>
    simp only at h
    cases a with
    | none =>
      simp only at h
      cases h
      exact ⟨fun x hx => (by cases hx), fun y hy => (by cases hy; exact Nat.le_refl _)⟩
    | some x =>
      simp only at h
      split at h
      · cases h
        exact ⟨fun x hx => (by cases hx; omega), fun y hy => (by cases hy; exact Nat.le_refl _)⟩
      · cases h
        exact ⟨fun x hx => (by cases hx; exact Nat.le_refl _), fun y hy => (by cases hy; omega)⟩
theorem newer_none {a b : Option Hd} (h : newer a b = none) : a = none ∧ b = none := by
  unfold newer at h
  cases b with
  | none => exact ⟨h, rfl⟩
  | some y =>
    cases a with
    | none => cases h
    | some x =>
      simp only at h
      split at h <;> cases h
/-- Each sector of heads has an elder head, or none. -/
theorem HeadIs.le {d : Dsk} {gen tail F : Nat} (h : HeadIs d gen tail F) : ∀ i, i < 2 → ∀ x, hdB (d.get i) i = some x → x.gen ≤ gen := by
  have key : (∀ x, hdB (d.get 0) 0 = some x → x.gen ≤ gen) ∧ ∀ x, hdB (d.get 1) 1 = some x → x.gen ≤ gen := by
    rcases h with ⟨h, -⟩ | ⟨h, -⟩
    · exact newer_le (z := ⟨gen, tail, F⟩) h
    · obtain ⟨h1, h2⟩ := newer_none (a := hdB (d.get 0) 0) (b := hdB (d.get (0 + 1)) 1) h
      exact ⟨fun x hx => (by rw [h1] at hx; cases hx), fun x hx => (by rw [show d.get 1 = d.get (0 + 1) from rfl, h2] at hx; cases hx)⟩
  intro i hi
  match i, hi with
  | 0, _ => exact key.1
  | 1, _ => exact key.2
/-- A head of a greater number, laid at its place. -/
theorem HeadIs.save {d d' : Dsk} {gen tail F ep nt : Nat} (h : HeadIs d gen tail F) (he : ep ≤ 16777215) (hg : gen + 1 ≤ 1099511627775) (ht : nt < 2 ^ 40)
    (h1 : d'.get ((gen + 1) % 2) = sealB (headPc ep ⟨gen + 1, nt, ep⟩)) (h2 : ∀ i, i < 2 → i ≠ (gen + 1) % 2 → d'.get i = d.get i) : HeadIs d' (gen + 1) nt ep := by
  have hs := hd_seal (ep := ep) (g := gen + 1) (t := nt) (f := ep) he hg ht (Nat.lt_of_le_of_lt he (by decide)) (i := (gen + 1) % 2) rfl
  have hlt := Nat.mod_lt (gen + 1) (show 0 < 2 by decide)
  refine .inl ⟨?_, h1⟩
  have hl := h.le
  show newer (hdB (d'.get 0) 0) (hdB (d'.get 1) 1) = _
  by_cases hp : (gen + 1) % 2 = 0
  · rw [hp] at h1 hs h2
    rw [h1, hs, h2 1 (by decide) (by decide)]
    cases hb : hdB (d.get 1) 1 with
    | none => rfl
    | some y =>
      have := hl 1 (by decide) y hb
      unfold newer
      simp only
      rw [if_neg (by omega)]
  · have hp1 : (gen + 1) % 2 = 1 := by omega
    rw [hp1] at h1 hs h2
    rw [h1, hs, h2 0 (by decide) (by decide)]
    cases hb : hdB (d.get 0) 0 with
    | none => rfl
    | some y =>
      have := hl 0 (by decide) y hb
      unfold newer
      simp only
      rw [if_pos (by omega)]
theorem keys_seen {l : Lg} (ks : List Nat) (hks : ∀ k ∈ ks, ∃ b, l.H k = some b) (k : Nat) (s : List Nat) : seenQ (homeQ l ks) (2 + l.n + k) s = if k ∈ ks then (l.H k).getD [] else s := by
  by_cases hk : k ∈ ks
  · rw [if_pos hk]
    obtain ⟨x, hx, h1, h2⟩ := seen_some (homeQ l ks) (2 + l.n + k) s ⟨_, List.mem_map.2 ⟨k, hk, rfl⟩, rfl⟩
    obtain ⟨j, hj, rfl⟩ := List.mem_map.1 hx
    rw [h2]
    simp only at h1
    rw [show j = k by omega]
  · rw [if_neg hk]
    refine seen_no _ _ _ fun x hx => ?_
    obtain ⟨j, hj, rfl⟩ := List.mem_map.1 hx
    simp only
    intro e
    exact hk (by rw [show k = j by omega]; exact hj)
theorem homeQ_low {l : Lg} (ks : List Nat) {i : Nat} (hi : i < 2 + l.n) (s : List Nat) : seenQ (homeQ l ks) i s = s := by
  refine seen_no _ _ _ fun x hx => ?_
  obtain ⟨j, hj, rfl⟩ := List.mem_map.1 hx
  simp only
  omega
/-- The ring freed: what a head at the next count leaves. -/
theorem Base.freed {d d' : Dsk} {l : Lg} {F : Nat} {D : List Rc} (h : Base d l F D) (hok : l.fit d) (hd : d.ok) (hnx : l.next = endCt l.tail D) (hsm : l.next < 1099511627776) (hg : l.gen + 1 ≤ 1099511627775) (hL : d'.L.length = d.L.length)
    (h1 : d'.get ((l.gen + 1) % 2) = sealB (headPc l.epoch ⟨l.gen + 1, l.next, l.epoch⟩)) (h2 : ∀ i, i < 2 + l.n → i ≠ (l.gen + 1) % 2 → d'.get i = d.get i) (H' : Nat → Option (List Nat)) (e : Nat) :
    Base d' { l with gen := l.gen + 1, tail := l.next, H := H', err := e } l.epoch [] := by
  have hlt := Nat.mod_lt (l.gen + 1) (show 0 < 2 by decide)
  have hn2 := hok.n2
  refine ⟨h.hd.save hok.epoch hg hsm h1 (fun i hi hne => h2 i (by omega) hne), trivial, (fun q hq => by cases hq), Nat.le_add_right _ _, Nat.le_refl _, .inl rfl, fun c q c1 c2 hq => ?_⟩
  have c1 : l.next ≤ c := c1
  have c2 : c < l.next + l.n := c2
  have hq : pieceB d' l.n c = some q := hq
  show q.ep < l.epoch
  have hge : d'.get (2 + c % l.n) = d.get (2 + c % l.n) := h2 _ (by have := Nat.mod_lt c (show 0 < l.n by omega); omega) (by omega)
  rw [pieceB_same hge] at hq
  by_cases hc : c < l.tail + l.n
  · exact h.old c q (by omega) hc hq
  · exfalso
    have h3 := hok.tail
    have h4 := hok.next
    obtain ⟨q', hq', hct⟩ := allPcs_all D l.tail (c - l.n) (by omega) (by omega)
    have hs := h.slots q' hq'
    have hsl : (c - l.n) % l.n = c % l.n := by
      conv => rhs; rw [show c = c - l.n + l.n by omega]
      rw [Nat.add_mod_right]
    rw [hct, hsl] at hs
    have hok' := rise_ok D _ _ h.rise q' hq'
    obtain ⟨hg2, hct2⟩ := pieceB_get hq
    have : some q' = some q := by
      have hu := unseal_seal hok'
      have hu2 := congrArg unsealB hg2
      rw [hs, hu] at hu2
      have hqok := (pieceB_ok (n := l.n) hd (by omega) (by have := hok.nd; omega) hq).1
      rw [unseal_seal hqok] at hu2
      exact hu2
    cases this
    omega
end Go.Proofs.YtldimgchpgoggaaGreat

/- Write, Sync, Checkpoint where no fuse burns. Plain. -/
namespace Go.Proofs.YtldimgchpgoggaaGreat
open Go.RowKit Go.Tn Go.Tn.Bt Go.Tn.Lp Go.Tn.Dk
theorem putPcs_calm (n : Nat) : ∀ (ps : List Pc) (d : Dsk), Dsk.calm d → putPcs n ps d = ({ d with Q := d.Q ++ ringQ n ps }, 0)
  | [], d, _ => by simp [putPcs, ringQ]
  | q :: r, d, h => by
    have hc : Dsk.calm { d with Q := d.Q ++ [(2 + q.ct % n, sealB q)] } := ⟨h.fuse, h.on⟩
    simp only [putPcs]
    rw [if_neg (by rw [h.dead]; decide), h.write, putPcs_calm n r _ hc]
    simp [ringQ]
/-- What Write does where no fuse burns. -/
theorem write_calm {l : Lg} {d : Dsk} {ps : List Pt} (h : Dsk.calm d) (he : l.err = 0) (ht : transB ps (l.homes d) = true) {pcs : List Pc} (hc : cutB l.epoch l.next (recB ps) = .ok pcs) (hf : pcs.length ≤ l.free) :
    l.write d ps = ({ l with next := l.next + pcs.length, H := takeH l.H ps }, { d with Q := d.Q ++ ringQ l.n pcs }, 0) := by
  unfold Lg.write
  rw [if_neg (by omega), if_neg (by rw [ht]; decide), hc]
  simp only
  rw [if_neg (by omega), putPcs_calm _ _ _ h]
  simp
theorem write_full {l : Lg} {d : Dsk} {ps : List Pt} (he : l.err = 0) (ht : transB ps (l.homes d) = true) {pcs : List Pc} (hc : cutB l.epoch l.next (recB ps) = .ok pcs) (hf : l.free < pcs.length) : l.write d ps = (l, d, 8) := by
  unfold Lg.write
  rw [if_neg (by omega), if_neg (by rw [ht]; decide), hc]
  simp only
  rw [if_pos hf]
theorem cut_ok {ps : List Pt} {homes ep ct : Nat} (ht : transB ps homes = true) (he : ep ≤ 16777215) (hc : ct + 1000 ≤ 1099511627775) : cutB ep ct (recB ps) = .ok (cutL ep ct (recB ps)) := by
  have hl := recB_le ht
  unfold cutB
  rw [if_neg (by unfold cutN; omega), if_neg (by omega)]
theorem recN {ps : List Pt} {homes : Nat} (ht : transB ps homes = true) : cutN (recB ps) = ((recB ps).length + 105) / 106 ∧ 1 ≤ ((recB ps).length + 105) / 106 ∧ (recB ps).length ≤ 4000 := by
  have h1 := (transB_iff ps homes).1 ht
  have h2 := recB_len fun p hp => (h1.2.2.1 p hp).2.2
  have h3 := recB_le ht
  unfold cutN
  omega
theorem mem_keys' {l : Lg} {d : Dsk} {k : Nat} (hk : k < l.homes d) : k ∈ l.keys d ↔ ∃ b, l.H k = some b := by
  unfold Lg.keys
  rw [List.mem_filter, List.mem_range]
  exact ⟨fun h => Option.isSome_iff_exists.1 h.2, fun h => ⟨hk, Option.isSome_iff_exists.2 h⟩⟩
theorem check_calm {d : Dsk} {l : Lg} {F : Nat} {D P : List Rc} (h : Rg d l F D P) (hc : Dsk.calm d) (he : l.err = 0) (hg : l.gen + 1 ≤ 1099511627775) (hs : l.next < 1099511627776) :
    ∃ d', l.check d = ({ l with gen := l.gen + 1, tail := l.next, H := fun _ => none }, d', 0) ∧ Dsk.calm d' ∧ d'.L.length = d.L.length ∧ d'.Q = [] ∧ (d'.ok → Rg d' { l with gen := l.gen + 1, tail := l.next, H := fun _ => none } l.epoch [] []) ∧ (∀ k, k < l.homes d → d'.get (2 + l.n + k) = l.home d k) ∧ ∀ i, i < 2 + l.n → d'.get i = sealB (headPc l.epoch ⟨l.gen + 1, l.next, l.epoch⟩) ∨ d'.get i = d.get i := by
  have hn2 := h.fit.n2
  have hnd := h.fit.nd
  have h1 : Rg d.flush l F (D ++ P) [] := by
    rw [hc.flush]
    refine h.flush rfl rfl ?_
    have := h.dok.flush
    rwa [hc.flush] at this
  have hLf : d.flush.L.length = d.L.length := flush_L d
  have hcf : Dsk.calm d.flush := by rw [hc.flush]; exact ⟨hc.fuse, hc.on⟩
  have hQf : d.flush.Q = [] := by rw [hc.flush]
  have hgf : ∀ i, i < d.L.length → d.flush.get i = d.get i := fun i hi => by
    rw [hc.flush]
    exact flush_get rfl rfl hi
  generalize hd1 : d.flush = d1 at *
  have hbr : l.bring d1 = ({ d1 with L := laid (homeQ l (l.keys d1)) d1.L, Q := [] }, 0) := by
    unfold Lg.bring
    rw [bringGo_calm l _ d1 hcf, hQf, List.nil_append]
  obtain ⟨d2, hd2⟩ : ∃ d2 : Dsk, { d1 with L := laid (homeQ l (l.keys d1)) d1.L, Q := [] } = d2 := ⟨_, rfl⟩
  rw [hd2] at hbr
  have hc2 : Dsk.calm d2 := by rw [← hd2]; exact ⟨hcf.fuse, hcf.on⟩
  have hL2 : d2.L = laid (homeQ l (l.keys d1)) d1.L := by rw [← hd2]
  have hQ2 : d2.Q = [] := by rw [← hd2]
  have hsv := save_calm hc2 0 l.epoch ⟨l.gen + 1, l.next, l.epoch⟩
  rw [hQ2, List.nil_append, Nat.zero_add] at hsv
  obtain ⟨d3, hd3⟩ : ∃ d3 : Dsk, { d2 with L := laid [((l.gen + 1) % 2, sealB (headPc l.epoch ⟨l.gen + 1, l.next, l.epoch⟩))] d2.L, Q := [] } = d3 := ⟨_, rfl⟩
  have hsv' : d2.save 0 l.epoch ⟨l.gen + 1, l.next, l.epoch⟩ = (d3, 0) := by rw [hsv, ← hd3]
  have hL3 : d3.L = laid [((l.gen + 1) % 2, sealB (headPc l.epoch ⟨l.gen + 1, l.next, l.epoch⟩))] d2.L := by rw [← hd3]
  have hQ3 : d3.Q = [] := by rw [← hd3]
  have hc3 : Dsk.calm d3 := by rw [← hd3]; exact ⟨hc2.fuse, hc2.on⟩
  have hl2 : d2.L.length = d1.L.length := by rw [hL2, laid_len]
  have hl3 : d3.L.length = d1.L.length := by rw [hL3, laid_len, hl2]
  have hchk : l.check d = ({ l with gen := l.gen + 1, tail := l.next, H := fun _ => none }, d3, 0) := by
    have hsy := sync_calm hc he
    rw [hd1] at hsy
    unfold Lg.check
    rw [hsy]
    simp only
    rw [if_neg (by omega), if_neg (by omega), hbr]
    simp only
    rw [if_neg (by decide), hsv']
    simp
  have hg3 : ∀ i, i < d1.L.length → d3.get i = if (l.gen + 1) % 2 = i then sealB (headPc l.epoch ⟨l.gen + 1, l.next, l.epoch⟩) else seenQ (homeQ l (l.keys d1)) i (d1.get i) := fun i hi => by
    have e1 : d3.get i = d3.L.getD i [] := by unfold Dsk.get; rw [hQ3]; rfl
    have e2 : d1.get i = d1.L.getD i [] := by unfold Dsk.get; rw [hQf]; rfl
    rw [e1, hL3, laid_get _ _ _ (by omega), hL2, laid_get _ _ _ hi, ← e2]
    rfl
  have hgl := Nat.mod_lt (l.gen + 1) (show 0 < 2 by decide)
  have hb1 := h1.base
  rw [last_of_none hQf] at hb1
  have hnx1 : l.next = endCt l.tail (D ++ P) := h.nx
  refine ⟨d3, hchk, hc3, by rw [hl3, hLf], hQ3, fun hok3 => ?_, fun k hk => ?_, fun i hi => ?_⟩
  · have hbf : Base d3 { l with gen := l.gen + 1, tail := l.next, H := fun _ => none, err := l.err } l.epoch [] := by
      refine hb1.freed h1.fit h1.dok hnx1 hs hg hl3 ?_ ?_ _ _
      · rw [hg3 _ (by omega), if_pos rfl]
      · intro i hi hne
        rw [hg3 i (by omega), if_neg (fun e => hne e.symm), homeQ_low _ hi]
    have hf1 := h1.fit.disk (d' := d3) hl3
    refine ⟨⟨hf1.n2, hf1.nd, hf1.epoch, hg, Nat.le_refl _, Nat.le_add_right _ _, hf1.err, fun k b hk => by cases hk⟩, hok3, ?_, hQ3, trivial, rfl, rfl⟩
    rw [last_of_none hQ3]
    exact hbf
  · have hkl : 2 + l.n + k < d.L.length := by unfold Lg.homes at hk; omega
    have hks : ∀ k ∈ l.keys d1, ∃ b, l.H k = some b := fun k hk => (mem_keys hk).2
    rw [hg3 _ (by omega), if_neg (by omega), keys_seen _ hks, hgf _ hkl]
    have hk1 : k < l.homes d1 := by unfold Lg.homes at hk ⊢; omega
    unfold Lg.home
    by_cases hm : k ∈ l.keys d1
    · rw [if_pos hm]
      obtain ⟨b, hb⟩ := (mem_keys' hk1).1 hm
      rw [hb]
      rfl
    · rw [if_neg hm]
      cases hH : l.H k with
      | none => rfl
      | some b => exact absurd ((mem_keys' hk1).2 ⟨b, hH⟩) hm
  · rw [hg3 i (by omega)]
    by_cases he : (l.gen + 1) % 2 = i
    · rw [if_pos he]
      exact .inl rfl
    · rw [if_neg he, homeQ_low _ hi, hgf i (by omega)]
      exact .inr rfl
/-! ### What is seen of homes -/
theorem homes_write {l l' : Lg} {d d' : Dsk} {ps : List Pt} {pcs : List Pc} (hn2 : 2 ≤ l.n) (hn : l'.n = l.n) (hH : l'.H = takeH l.H ps) (hL : d'.L = d.L) (hQ : d'.Q = d.Q ++ ringQ l.n pcs) (k : Nat) :
    l'.home d' k = (takeH l.H ps k).getD (d.get (2 + l.n + k)) := by
  have hg : d'.get (2 + l.n + k) = d.get (2 + l.n + k) := by
    unfold Dsk.get
    rw [hL, hQ, seen_append]
    refine seen_no _ _ _ fun x hx => ?_
    obtain ⟨q, _, rfl⟩ := List.mem_map.1 hx
    have := Nat.mod_lt q.ct (show 0 < l.n by omega)
    simp only
    omega
  unfold Lg.home
  rw [hn, hH, hg]
  cases takeH l.H ps k <;> rfl
end Go.Proofs.YtldimgchpgoggaaGreat

/- The power goes off: what a ring says then. Plain. -/
namespace Go.Tn.Dk
open Go.Tn Go.Tn.Lp
/-- How many bytes of a write last. -/
def keptN (n i : Nat) (keep : List Int) (torn : Int) : Nat := if i + 1 = n ∧ 0 < torn ∧ torn < 128 then torn.toNat else if i < keep.length ∧ keep.getD i 0 ≠ 0 then 128 else 0
def crashL (n : Nat) (keep : List Int) (torn : Int) : Nat → List (Nat × List Nat) → List (List Nat) → List (List Nat)
  | _, [], L => L
  | i, q :: Q, L => crashL n keep torn (i + 1) Q (L.set q.1 (tornB (keptN n i keep torn) q.2 (L.getD q.1 [])))
/-- The power goes off, and on. -/
def Dsk.crash (d : Dsk) (keep : List Int) (torn : Int) : Dsk := { d with L := crashL d.Q.length keep torn 0 d.Q d.L, Q := [], fused := false, off := false }
theorem crashL_len (n : Nat) (keep : List Int) (torn : Int) : ∀ (Q : List (Nat × List Nat)) (i : Nat) (L : List (List Nat)), (crashL n keep torn i Q L).length = L.length
  | [], _, _ => rfl
  | q :: Q, i, L => by
    simp only [crashL]
    rw [crashL_len n keep torn Q, List.length_set]
theorem set_getD {L : List (List Nat)} {a i : Nat} {b : List Nat} (h : a ≠ i) : (L.set a b).getD i [] = L.getD i [] := by
  rw [List.getD_eq_getElem?_getD, List.getElem?_set_ne h, ← List.getD_eq_getElem?_getD]
theorem crash_no (n : Nat) (keep : List Int) (torn : Int) : ∀ (Q : List (Nat × List Nat)) (i : Nat) (L : List (List Nat)) (s : Nat), (∀ q ∈ Q, q.1 ≠ s) → (crashL n keep torn i Q L).getD s [] = L.getD s []
  | [], _, _, _, _ => rfl
  | q :: Q, i, L, s, h => by
    simp only [crashL]
    rw [crash_no n keep torn Q _ _ s fun x hx => h x (List.mem_cons_of_mem _ hx), set_getD (h q List.mem_cons_self)]
theorem crash_one (n : Nat) (keep : List Int) (torn : Int) : ∀ (Q : List (Nat × List Nat)) (i : Nat) (L : List (List Nat)) (q : Nat × List Nat), q ∈ Q → (Q.map (·.1)).Nodup → q.1 < L.length → ∃ k, (crashL n keep torn i Q L).getD q.1 [] = tornB k q.2 (L.getD q.1 [])
  | x :: Q, i, L, q, hq, hnd, hl => by
    simp only [crashL]
    rw [List.map_cons, List.nodup_cons] at hnd
    rcases List.mem_cons.1 hq with rfl | hq
    · refine ⟨keptN n i keep torn, ?_⟩
      rw [crash_no n keep torn Q _ _ q.1 fun y hy e => hnd.1 (List.mem_map.2 ⟨y, hy, e⟩)]
      rw [List.getD_eq_getElem?_getD, List.getElem?_set_self hl]
      rfl
    · have hne : x.1 ≠ q.1 := fun e => hnd.1 (List.mem_map.2 ⟨q, hq, e.symm⟩)
      obtain ⟨k, hk⟩ := crash_one n keep torn Q (i + 1) (L.set x.1 (tornB (keptN n i keep torn) x.2 (L.getD x.1 []))) q hq hnd.2 (by rw [List.length_set]; exact hl)
      exact ⟨k, by rw [hk, set_getD hne]⟩
theorem crash_get (d : Dsk) (keep : List Int) (torn : Int) (i : Nat) : (d.crash keep torn).get i = (crashL d.Q.length keep torn 0 d.Q d.L).getD i [] := rfl
theorem crash_L (d : Dsk) (keep : List Int) (torn : Int) : (d.crash keep torn).L.length = d.L.length := crashL_len _ _ _ _ _ _
end Go.Tn.Dk
namespace Go.Proofs.YtldimgchpgoggaaGreat
open Go.RowKit Go.Tn Go.Tn.Bt Go.Tn.Lp Go.Tn.Dk
theorem behind_append (l : Lg) (a b : List Rc) : Lg.behind (Lg.behind l a) b = Lg.behind l (a ++ b) := by
  unfold Lg.behind
  simp only
  rw [applyH_append, endCt_append]
theorem pcs_byte {homes E : Nat} : ∀ (rs : List Rc) (ct : Nat), Goods homes E ct rs → ∀ q ∈ allPcs ct rs, q.ok ∧ (∀ x ∈ q.da, x < 256) ∧ q.ep = E
  | [], _, _, q, h => by cases h
  | r :: rs, ct, ⟨h1, h2, h3⟩, q, h => by
    rcases List.mem_append.1 h with h | h
    · refine ⟨h2.ok q h, ?_, ?_⟩
      · exact cutL_lt (recB_lt _) _ _ q h
      · obtain ⟨i, _, rfl⟩ := mem_pcs h
        exact h1
    · exact pcs_byte rs _ h3 q h
/-- Which sectors what lasts has. -/
structure Keep (d : Dsk) (l : Lg) : Prop where
  sect : ∀ i, i < 2 + l.n → Sect l.epoch (d.get i)
  hdct : ∀ i, i < 2 → ∀ p, unsealB (d.get i) = some p → p.ep = l.epoch → p.ct ≤ l.gen
  ep : l.epoch < 65536
/-- What a disk says behind a crash: as some log would have left it. -/
structure Says (d : Dsk) (n gen tail F : Nat) (D : List Rc) : Prop where
  hd : HeadIs d gen tail F
  rise : Rise (d.L.length - 2 - n) tail F D
  slots : ∀ q ∈ allPcs tail D, d.get (2 + q.ct % n) = sealB q
  room : endCt tail D ≤ tail + n
  stop : ∀ E, stepB d (Lg.behind (log0 n E gen tail) D) (lastF F D) = none
/-- The same sectors of heads and ring: the same. -/
theorem Says.same {d d' : Dsk} {n gen tail F : Nat} {D : List Rc} (h : Says d n gen tail F D) (hn : 2 ≤ n) (hL : d'.L.length = d.L.length) (hs : ∀ i, i < 2 + n → d'.get i = d.get i) : Says d' n gen tail F D := by
  have hlt : ∀ c, 2 + c % n < 2 + n := fun c => by have := Nat.mod_lt c (show 0 < n by omega); omega
  refine ⟨h.hd.same fun i hi => hs i (by omega), by rw [hL]; exact h.rise, fun q hq => (hs _ (hlt _)).trans (h.slots q hq), h.room, fun E => ?_⟩
  refine stepB_same' (l := Lg.behind (log0 n E gen tail) D) hL (by have := endCt_le D tail; show tail ≤ endCt tail D; omega) (fun c _ _ => pieceB_same (hs _ (hlt c))) (h.stop E)
theorem ring_nodup {n t : Nat} : ∀ (ps : List Pc), (ps.map (·.ct)).Nodup → (∀ q ∈ ps, t ≤ q.ct ∧ q.ct < t + n) → ((ringQ n ps).map (·.1)).Nodup
  | [], _, _ => List.nodup_nil
  | p :: ps, hnd, h => by
    rw [List.map_cons, List.nodup_cons] at hnd
    have ih := ring_nodup ps hnd.2 fun q hq => h q (List.mem_cons_of_mem _ hq)
    show ((2 + p.ct % n) :: (ringQ n ps).map (fun x => x.1)).Nodup
    refine List.nodup_cons.2 ⟨fun hm => ?_, ih⟩
    obtain ⟨x, hx, he⟩ := List.mem_map.1 hm
    obtain ⟨q, hq, rfl⟩ := List.mem_map.1 hx
    have h1 := h p List.mem_cons_self
    have h2 := h q (List.mem_cons_of_mem _ hq)
    simp only at he
    have := mod_inj h1.1 h1.2 h2.1 h2.2 (show p.ct % n = q.ct % n by omega)
    exact hnd.1 (by rw [this]; exact List.mem_map.2 ⟨q, hq, rfl⟩)
theorem pcs_nodup : ∀ (rs : List Rc) (ct : Nat), ((allPcs ct rs).map (·.ct)).Nodup
  | [], _ => List.nodup_nil
  | r :: rs, ct => by
    show ((r.pcs ct ++ allPcs (ct + r.n) rs).map (·.ct)).Nodup
    rw [List.map_append]
    refine List.pairwise_append.2 ⟨?_, pcs_nodup rs _, fun a ha b hb e => ?_⟩
    · unfold Rc.pcs cutL
      rw [List.map_map]
      refine List.pairwise_map.2 ((List.nodup_range (n := cutN (recB r.ps))).imp fun h e => h ?_)
      simp only [Function.comp, pieceAt] at e
      omega
    · obtain ⟨p, hp, rfl⟩ := List.mem_map.1 ha
      obtain ⟨q, hq, rfl⟩ := List.mem_map.1 hb
      obtain ⟨i, hi, rfl⟩ := mem_pcs hp
      have := (allPcs_ct rs _ q hq).1
      simp only [pieceAt] at e
      omega
/-- Pieces of records wait: the first ones of the records are said. -/
theorem crash_ring {d : Dsk} {l : Lg} {F : Nat} {D P : List Rc} {m : Nat} {keep : List Int} {torn : Int} (hb : Base d.last l F D) (hk : Keep d.last l) (hfit : l.fit d) (hd : d.ok) (hg : Goods (l.homes d) l.epoch (endCt l.tail D) P) (hroom : endCt (endCt l.tail D) P ≤ l.tail + l.n)
    (hQ : d.Q = ringQ l.n ((allPcs (endCt l.tail D) P).take m)) :
    (∃ j, j ≤ P.length ∧ Says (d.crash keep torn) l.n l.gen l.tail F (D ++ P.take j)) ∧ (∀ i, i < 2 + l.n → SectA (l.epoch / 256 * 256 + 255) ((d.crash keep torn).get i)) ∧ ∀ k, (d.crash keep torn).get (2 + l.n + k) = d.last.get (2 + l.n + k) := by
  have hn2 := hfit.n2
  have hnd := hfit.nd
  have hL := crash_L d keep torn
  have hlt : ∀ c, 2 + c % l.n < 2 + l.n := fun c => by have := Nat.mod_lt c (show 0 < l.n by omega); omega
  have htc := endCt_le D l.tail
  have hmem : ∀ q ∈ (allPcs (endCt l.tail D) P).take m, q ∈ allPcs (endCt l.tail D) P := fun q hq => List.mem_of_mem_take hq
  have hct : ∀ q ∈ (allPcs (endCt l.tail D) P).take m, l.tail ≤ q.ct ∧ q.ct < l.tail + l.n := fun q hq => by
    have := allPcs_ct P _ q (hmem q hq)
    omega
  have hnodup : (d.Q.map (·.1)).Nodup := by
    rw [hQ]
    exact ring_nodup _ (by rw [List.map_take]; exact (pcs_nodup P _).sublist (List.take_sublist _ _)) hct
  -- a sector that nobody waits for
  have hno : ∀ i, (∀ q ∈ (allPcs (endCt l.tail D) P).take m, 2 + q.ct % l.n ≠ i) → (d.crash keep torn).get i = d.last.get i := fun i hi => by
    rw [crash_get, crash_no]
    · rfl
    · intro x hx
      rw [hQ] at hx
      obtain ⟨q, hq, rfl⟩ := List.mem_map.1 hx
      exact hi q hq
  have hone : ∀ q ∈ (allPcs (endCt l.tail D) P).take m, ∃ k, (d.crash keep torn).get (2 + q.ct % l.n) = tornB k (sealB q) (d.last.get (2 + q.ct % l.n)) := fun q hq => by
    have hx : (2 + q.ct % l.n, sealB q) ∈ d.Q := by rw [hQ]; exact List.mem_map.2 ⟨q, hq, rfl⟩
    obtain ⟨k, hk⟩ := crash_one d.Q.length keep torn d.Q 0 d.L _ hx hnodup (by have := hlt q.ct; simp only; omega)
    exact ⟨k, hk⟩
  have hpb := pcs_byte P _ hg
  refine ⟨?_, fun i hi => ?_, fun k => hno _ fun q hq => by have := hlt q.ct; omega⟩
  · have hM : ∀ c, endCt l.tail D ≤ c → c < l.tail + l.n → pieceB (d.crash keep torn) l.n c = pieceB d.last l.n c ∨ pieceB (d.crash keep torn) l.n c = none ∨ ∃ q ∈ allPcs (endCt l.tail D) P, q.ct = c ∧ pieceB (d.crash keep torn) l.n c = some q := by
      intro c h1 h2
      by_cases hc : ∃ q ∈ (allPcs (endCt l.tail D) P).take m, q.ct = c
      · obtain ⟨q, hq, rfl⟩ := hc
        obtain ⟨hqo, hqb, hqe⟩ := hpb q (hmem q hq)
        obtain ⟨k, hk'⟩ := hone q hq
        rcases torn_or (k := k) (hk.sect _ (hlt q.ct)) hk.ep hqo hqb hqe (fun p hp hpe hpc => by
          have : pieceB d.last l.n q.ct = some p := by
            unfold pieceB
            rw [hp]
            simp only
            rw [if_pos hpc]
          have := hb.old q.ct p h1 h2 this
          omega) with h | h | h
        · right; left
          unfold pieceB
          rw [hk', h]
        · left
          exact pieceB_same (hk'.trans h)
        · right; right
          exact ⟨q, hmem q hq, rfl, pieceB_seal hqo (hk'.trans h)⟩
      · left
        refine pieceB_same (hno _ fun q hq e => hc ⟨q, hq, ?_⟩)
        have h3 := hct q hq
        exact mod_inj (t := l.tail) h3.1 h3.2 (by omega) h2 (by omega)
    have hmx := mix_chain (d := d.last) (d' := d.crash keep torn) (E := l.epoch) hL P (Lg.behind (log0 l.n l.epoch l.gen l.tail) D) (lastF F D) (homes_le (d := d) hd) hg (by show l.tail ≤ endCt l.tail D; omega) hroom hb.fle hb.stop hb.old hM
    obtain ⟨j, hj, hch, hst⟩ := hmx
    refine ⟨j, hj, ?_⟩
    have hch2 := (chain_iff _ _ _ _ _ _).1 hch
    have hhom : (d.crash keep torn).L.length - 2 - l.n = l.homes d.last := by rw [hL]; rfl
    have hjle : endCt (endCt l.tail D) (P.take j) ≤ endCt (endCt l.tail D) P := by
      conv => rhs; rw [← List.take_append_drop j P]
      rw [endCt_append]
      have := endCt_le (P.drop j) (endCt (endCt l.tail D) (P.take j))
      omega
    refine ⟨hb.hd.same fun i hi => hno i fun q hq => by omega, ?_, fun q hq => ?_, ?_, fun E => ?_⟩
    · rw [hhom, rise_append]
      exact ⟨hb.rise, hch2.1⟩
    · rw [allPcs_append] at hq
      rcases List.mem_append.1 hq with hq | hq
      · have h4 := allPcs_ct D _ q hq
        rw [hno _ fun p hp e => ?_]
        · exact hb.slots q hq
        · have h5 := hct p hp
          have h6 := (allPcs_ct P _ p (hmem p hp)).1
          have := mod_inj (t := l.tail) h5.1 h5.2 h4.1 (by have := hb.room; omega) (show p.ct % l.n = q.ct % l.n by omega)
          omega
      · exact hch2.2 q hq
    · rw [endCt_append]
      omega
    · rw [lastF_append]
      rw [behind_append] at hst
      exact stepB_epoch (l := Lg.behind (log0 l.n l.epoch l.gen l.tail) (D ++ P.take j)) (l' := Lg.behind (log0 l.n E l.gen l.tail) (D ++ P.take j)) rfl rfl rfl hst
  · have hep := hk.ep
    by_cases hc : ∃ q ∈ (allPcs (endCt l.tail D) P).take m, 2 + q.ct % l.n = i
    · obtain ⟨q, hq, rfl⟩ := hc
      obtain ⟨k, hk'⟩ := hone q hq
      obtain ⟨hqo, hqb, hqe⟩ := hpb q (hmem q hq)
      rw [hk']
      exact torn_ends (hk.sect _ hi).a hep hqo hqb hqe
    · rw [hno i fun q hq e => hc ⟨q, hq, e⟩]
      exact (hk.sect i hi).a.mono (by omega)
end Go.Proofs.YtldimgchpgoggaaGreat

/- A crash while homes, or a head, wait; opened behind a crash. Plain. -/
namespace Go.Proofs.YtldimgchpgoggaaGreat
open Go.RowKit Go.Tn Go.Tn.Bt Go.Tn.Lp Go.Tn.Dk
end Go.Proofs.YtldimgchpgoggaaGreat

/- The disk: Fuse, Live, kept, walked. -/
namespace Go.Tn.Dk
end Go.Tn.Dk
namespace Go.Proofs.YtldimgchpgoggaaGreat
open Go.RowKit Go.Tn Go.Tn.Bt Go.Tn.Lp Go.Tn.Dk
end Go.Proofs.YtldimgchpgoggaaGreat

/- The disk: kept, walked. -/
namespace Go.Proofs.YtldimgchpgoggaaGreat
open Go.RowKit Go.Tn Go.Tn.Bt Go.Tn.Lp Go.Tn.Dk
end Go.Proofs.YtldimgchpgoggaaGreat

/- The disk: a sector torn, in memory. -/
namespace Go.Tn.Dk
open Go.RowKit Go.Tn Go.Tn.Lp
theorem tornB_len {m : Nat} {q s : List Nat} (hm : m ≤ 128) (hq : q.length = 128) (hs : s.length = 128) : (tornB m q s).length = 128 := by
  unfold tornB
  rw [List.length_append, List.length_take, List.length_drop]
  omega
theorem secB.torn {m : Nat} {q s : List Nat} (hm : m ≤ 128) (hq : secB q) (hs : secB s) : secB (tornB m q s) := by
  refine ⟨tornB_len hm hq.1 hs.1, fun x hx => ?_⟩
  rcases List.mem_append.1 hx with hx | hx
  · exact hq.2 x (List.mem_of_mem_take hx)
  · exact hs.2 x (List.mem_of_mem_drop hx)
theorem keptN_le (n i : Nat) (keep : List Int) (torn : Int) : keptN n i keep torn ≤ 128 := by
  unfold keptN
  split
  · omega
  · split <;> omega
theorem crashL_sec {n : Nat} {keep : List Int} {torn : Int} {N : Nat} : ∀ (Q : List (Nat × List Nat)) (i : Nat) (L : List (List Nat)), (∀ q ∈ Q, q.1 < N ∧ secB q.2) → L.length = N → (∀ s ∈ L, secB s) → ∀ s ∈ crashL n keep torn i Q L, secB s
  | [], _, _, _, _, hL => hL
  | q :: Q, i, L, h, hN, hL => by
    have hq := h q List.mem_cons_self
    refine crashL_sec Q _ _ (fun r hr => h r (List.mem_cons_of_mem _ hr)) (by rw [List.length_set]; exact hN) fun s hs => ?_
    rcases List.mem_or_eq_of_mem_set hs with hs | rfl
    · exact hL s hs
    · refine secB.torn (keptN_le _ _ _ _) hq.2 ?_
      rw [List.getD_eq_getElem?_getD, List.getElem?_eq_getElem (by omega)]
      exact hL _ (List.getElem_mem (by omega))
theorem Dsk.ok.crash {d : Dsk} (h : d.ok) (keep : List Int) (torn : Int) : (d.crash keep torn).ok :=
  ⟨by rw [crash_L]; exact h.lo, by rw [crash_L]; exact h.hi, crashL_sec d.Q 0 d.L h.que rfl h.sec, fun q hq => (by cases hq), Nat.zero_le _, h.fuse⟩
end Go.Tn.Dk
namespace Go.Proofs.YtldimgchpgoggaaGreat
open Go.RowKit Go.Tn Go.Tn.Bt Go.Tn.Lp Go.Tn.Dk
end Go.Proofs.YtldimgchpgoggaaGreat

/- Homes as a list; homes behind a transaction. Plain. -/
namespace Go.Proofs.YtldimgchpgoggaaGreat
open Go.RowKit Go.Tn Go.Tn.Bt Go.Tn.Lp Go.Tn.Dk
def homesB (l : Lg) (d : Dsk) : List (List Nat) := (List.range (l.homes d)).map (l.home d)
theorem homesB_len (l : Lg) (d : Dsk) : (homesB l d).length = l.homes d := by unfold homesB; rw [List.length_map, List.length_range]
/-- Homes behind a transaction. -/
def overB (hs : List (List Nat)) (ps : List Pt) : List (List Nat) := ps.foldl (fun hs p => if 0 ≤ p.1 ∧ p.1 < (hs.length : Int) then hs.set p.1.toNat p.2 else hs) hs
theorem home_getD (l : Lg) (d : Dsk) (k : Nat) : l.home d k = (l.H k).getD (d.get (2 + l.n + k)) := by
  unfold Lg.home
  cases l.H k <;> rfl
theorem set_range (N : Nat) (f : Nat → List Nat) (i : Nat) (b : List Nat) : ((List.range N).map f).set i b = (List.range N).map fun k => if k = i then b else f k := by
  apply List.ext_getElem?
  intro j
  rw [List.getElem?_set, List.length_map, List.length_range, List.getElem?_map, List.getElem?_map]
  by_cases hj : j < N
  · rw [List.getElem?_range hj]
    by_cases h : i = j
    · subst h
      simp [hj]
    · rw [if_neg h]
      simp [show ¬ j = i from fun e => h e.symm]
  · rw [List.getElem?_eq_none (l := List.range N) (by rw [List.length_range]; omega)]
    by_cases h : i = j
    · subst h
      simp [hj]
    · rw [if_neg h]
      rfl
theorem over_take (N : Nat) (g : Nat → List Nat) : ∀ (ps : List Pt) (H : Nat → Option (List Nat)), (∀ p ∈ ps, 0 ≤ p.1 ∧ p.1 < N) → overB ((List.range N).map fun k => (H k).getD (g k)) ps = (List.range N).map fun k => (takeH H ps k).getD (g k)
  | [], H, _ => rfl
  | p :: ps, H, h => by
    have hp := h p List.mem_cons_self
    have ih := over_take N g ps (fun k => if (k : Int) = p.1 then some p.2 else H k) fun q hq => h q (List.mem_cons_of_mem _ hq)
    show overB (if 0 ≤ p.1 ∧ p.1 < ((((List.range N).map fun k => (H k).getD (g k)).length : Nat) : Int) then ((List.range N).map fun k => (H k).getD (g k)).set p.1.toNat p.2 else (List.range N).map fun k => (H k).getD (g k)) ps = (List.range N).map fun k => (takeH (fun k : Nat => if (k : Int) = p.1 then some p.2 else H k) ps k).getD (g k)
    rw [if_pos (by simp; omega), set_range, ← ih]
    congr 1
    refine List.map_congr_left fun k _ => ?_
    by_cases hk : (k : Int) = p.1
    · rw [if_pos (by omega), if_pos hk]
      rfl
    · rw [if_neg (by omega), if_neg hk]
theorem homesB_write {l l' : Lg} {d d' : Dsk} {ps : List Pt} {pcs : List Pc} (hn2 : 2 ≤ l.n) (hn : l'.n = l.n) (hH : l'.H = takeH l.H ps) (hL : d'.L = d.L) (hQ : d'.Q = d.Q ++ ringQ l.n pcs) (ht : transB ps (l.homes d) = true) : homesB l' d' = overB (homesB l d) ps := by
  have hh : l'.homes d' = l.homes d := by unfold Lg.homes; rw [hn, hL]
  unfold homesB
  rw [hh]
  have e1 : l.home d = fun k => (l.H k).getD (d.get (2 + l.n + k)) := funext (home_getD l d)
  have e2 : l'.home d' = fun k => (takeH l.H ps k).getD (d.get (2 + l.n + k)) := funext fun k => homes_write hn2 hn hH hL hQ k
  rw [e1, e2, over_take]
  intro p hp
  have := ((transB_iff ps _).1 ht).2.2.1 p hp
  exact ⟨this.1, this.2.1⟩
/-- No end of heads or ring has a greater epoch. -/
def Ends (d : Dsk) (k E : Nat) : Prop := ∀ i, i < k → (endsB (d.get i)).1 ≤ E ∧ (endsB (d.get i)).2 ≤ E
end Go.Proofs.YtldimgchpgoggaaGreat

/- Puts in memory that are all there. -/
namespace Go.Proofs.YtldimgchpgoggaaGreat
open Go.RowKit Go.Tn Go.Tn.Bt Go.Tn.Lp Go.Tn.Dk
/-- Puts in a slice, all there, none of their blocks among S. -/
def PtB (w : World) (S : Nat → Prop) (v : Value) (ps : List Pt) : Prop := ∃ xs : List (Pt × Sv), xs.map (·.1) = ps ∧ LSl enPt 2 w v xs ∧ (∀ r, v.ownBlock = some r → ¬ S r ∧ r < w.heap.size) ∧ ∀ x ∈ xs, LSl en8 1 w (sv x.2) x.1.2 ∧ ∀ r, (sv x.2).ownBlock = some r → ¬ S r ∧ r < w.heap.size
theorem PtsO.b {B : Nat} {w : World} {S : Nat → Prop} {v : Value} {ps : List Pt} (h : PtsO B w v ps) (hS : ∀ b, S b → b < B ∨ w.heap.size ≤ b) : PtB w S v ps := by
  obtain ⟨xs, h1, h2, h3⟩ := h
  refine ⟨xs, h1, h2.sl elPt.len, fun r hr => ⟨fun e => ?_, h2.lt hr⟩, fun x hx => ⟨(h3 x hx).1, fun r hr => ⟨fun e => ?_, ((h3 x hx).2 r hr).2.1⟩⟩⟩
  · have := h2.lt hr
    have := h2.lo r hr
    rcases hS r e with h | h <;> omega
  · have := ((h3 x hx).2 r hr)
    rcases hS r e with h | h <;> omega
theorem PtB.a {w : World} {S : Nat → Prop} {v : Value} {ps : List Pt} (h : PtB w S v ps) : PtsA w S v ps := by
  obtain ⟨xs, h1, h2, h3, h4⟩ := h
  exact ⟨xs, h1, h2, fun r hr => (h3 r hr).1, fun x hx => ⟨(h4 x hx).1, fun r hr => ((h4 x hx).2 r hr).1⟩⟩
theorem PtB.mod {w w' : World} {S S' : Nat → Prop} {v : Value} {ps : List Pt} (h : PtB w S v ps) (hm : Mod S w w') (hS : ∀ b, S' b → S b ∨ w.heap.size ≤ b) : PtB w' S' v ps := by
  obtain ⟨xs, h1, h2, h3, h4⟩ := h
  have key : ∀ r, ¬ S r ∧ r < w.heap.size → ¬ S' r ∧ r < w'.heap.size := fun r hr => ⟨fun e => by
    rcases hS r e with h | h
    · exact hr.1 h
    · omega, Nat.lt_of_lt_of_le hr.2 hm.size⟩
  exact ⟨xs, h1, h2.mod hm fun r hr => (h3 r hr).1, fun r hr => key r (h3 r hr), fun x hx => ⟨(h4 x hx).1.mod hm fun r hr => ((h4 x hx).2 r hr).1, fun r hr => key r ((h4 x hx).2 r hr)⟩⟩
theorem PtB.below {w w' : World} {S : Nat → Prop} {v : Value} {ps : List Pt} (h : PtB w S v ps) (hb : Below w.heap.size w w') : PtB w' S v ps := by
  obtain ⟨xs, h1, h2, h3, h4⟩ := h
  exact ⟨xs, h1, h2.below hb, fun r hr => ⟨(h3 r hr).1, Nat.lt_of_lt_of_le (h3 r hr).2 hb.size⟩, fun x hx => ⟨(h4 x hx).1.below hb, fun r hr => ⟨((h4 x hx).2 r hr).1, Nat.lt_of_lt_of_le ((h4 x hx).2 r hr).2 hb.size⟩⟩⟩
end Go.Proofs.YtldimgchpgoggaaGreat

/- What is kept of a block: plain. No program. -/
namespace Go.Tn.Slo
open Go.RowKit Go.Tn.Bt Go.Tn.Ino
abbrev Blk := Int × Int × Int
structure Slt where
  used : Bool
  blk : Blk
  ver : Nat
  dirty : Bool
  data : ByteArray
  deriving DecidableEq
def Slt.no : Slt := ⟨false, (0, 0, 0), 0, false, ByteArray.empty⟩
/-- It fits its bits. -/
structure Slt.fits (x : Slt) : Prop where
  used : x.used = true
  ino : 1 ≤ x.blk.1 ∧ x.blk.1 ≤ 40
  gen : 0 ≤ x.blk.2.1 ∧ x.blk.2.1 ≤ 2147483647
  at_ : 0 ≤ x.blk.2.2 ∧ x.blk.2.2 < 8
  ver : x.ver ≤ 1099511627775
  size : x.data.size ≤ 64
instance (x : Slt) : Decidable x.fits :=
  decidable_of_iff (x.used = true ∧ (1 ≤ x.blk.1 ∧ x.blk.1 ≤ 40) ∧ (0 ≤ x.blk.2.1 ∧ x.blk.2.1 ≤ 2147483647) ∧ (0 ≤ x.blk.2.2 ∧ x.blk.2.2 < 8) ∧ x.ver ≤ 1099511627775 ∧ x.data.size ≤ 64)
    ⟨fun ⟨a, b, c, d, e, f⟩ => ⟨a, b, c, d, e, f⟩, fun ⟨a, b, c, d, e, f⟩ => ⟨a, b, c, d, e, f⟩⟩
/-- Whether a slot may be. -/
def Slt.is (x : Slt) : Prop := x = Slt.no ∨ x.fits
instance (x : Slt) : Decidable x.is := by unfold Slt.is; infer_instance
/-- A text's bits. -/
def txBits (s : ByteArray) : List Bool := bitsN s.size 16 ++ s.data.toList.flatMap fun c => bitsN c.toNat 8
def Slt.bits (x : Slt) : List Bool := if x.used then bitsN 1 1 ++ bitsN x.dirty.toNat 1 ++ bitsN x.blk.1.toNat 6 ++ bitsN x.blk.2.1.toNat 31 ++ bitsN x.blk.2.2.toNat 3 ++ bitsN x.ver 40 ++ txBits x.data else []
def Slt.sec (x : Slt) : List Nat := sector x.bits
theorem c8_len : ∀ l : List UInt8, (l.flatMap fun c => bitsN c.toNat 8).length = 8 * l.length
  | [] => rfl
  | c :: l => by rw [List.flatMap_cons, List.length_append, bitsN_len, c8_len l, List.length_cons]; omega
theorem tx_len (s : ByteArray) : (txBits s).length = 16 + 8 * s.size := by
  unfold txBits
  rw [List.length_append, bitsN_len, c8_len]
  rfl
theorem Slt.bits_len {x : Slt} (h : x.is) : x.bits.length ≤ 1024 := by
  unfold Slt.bits
  rcases h with rfl | h
  · decide
  · rw [if_pos h.used]
    simp only [List.length_append, bitsN_len, tx_len]
    have := h.size
    omega
theorem Slt.sec_len {x : Slt} (h : x.is) : x.sec.length = 128 := sector_len (Slt.bits_len h)
theorem Slt.sec_lt (x : Slt) : ∀ c ∈ x.sec, c < 256 := sector_lt _
theorem no_sec : Slt.no.sec = List.replicate 128 0 := by decide +kernel
/-- Blocks, in order. -/
def bLess (a b : Blk) : Prop := a.1 < b.1 ∨ a.1 = b.1 ∧ (a.2.1 < b.2.1 ∨ a.2.1 = b.2.1 ∧ a.2.2 < b.2.2)
instance (a b : Blk) : Decidable (bLess a b) := by unfold bLess; infer_instance
theorem bLess_irrefl (a : Blk) : ¬ bLess a a := by unfold bLess; omega
theorem bLess_trans {a b c : Blk} (h : bLess a b) (k : bLess b c) : bLess a c := by unfold bLess at *; omega
theorem bLess_total {a b : Blk} (h : a ≠ b) : bLess a b ∨ bLess b a := by
  unfold bLess
  by_cases h1 : a.1 = b.1
  · by_cases h2 : a.2.1 = b.2.1
    · by_cases h3 : a.2.2 = b.2.2
      · exact absurd (Prod.ext h1 (Prod.ext h2 h3)) h
      · omega
    · omega
  · omega
end Go.Tn.Slo
