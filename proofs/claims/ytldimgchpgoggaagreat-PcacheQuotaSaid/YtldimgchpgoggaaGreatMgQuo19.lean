/- Places that are given up by turns: turn, Use, Drop, Touch, Pin: walked. -/
import Derived.Test.YtldimgchpgoggaaGreatMgQuo18
import Derived.Test.YtldimgchpgoggaaGreatMgQuo1
import Derived.Test.YtldimgchpgoggaaGreatRows
import Derived.Test.YtldimgchpgoggaaGreatMgQuo4
import Derived.Test.YtldimgchpgoggaaGreatMgQuo3
import Derived.Test.YtldimgchpgoggaaGreatMgQuo5
import Derived.ChangeKeysEq
import Derived.BigQuiet
import Derived.WalkKit
import Derived.WalkSpells
import Derived.Deep.Cut
import Derived.Deep.LoopGhost
/- A torn sector: the elder one, the newer one, or none. Plain. -/
namespace Go.Tn.Lp
open Go.Tn Go.Tn.Bt
/-- The first k bytes of one sector, the rest of another one. -/
def tornB (k : Nat) (a b : List Nat) : List Nat := a.take k ++ b.drop k
/-- The epoch that eight bytes begin with. -/
def epN (b : List Nat) : Nat := numOf b / 1099511627776
theorem epN8 {a b c d e f g h : Nat} (hd : d < 256) (he : e < 256) (hf : f < 256) (hg : g < 256) (hh : h < 256) : epN [a, b, c, d, e, f, g, h] = a * 65536 + b * 256 + c := by
  unfold epN numOf
  simp only [List.foldl_cons, List.foldl_nil]
  omega
theorem epN_hi {l : List Nat} (h8 : l.length = 8) (hb : ∀ x ∈ l, x < 256) : ∃ a b c r, l = a :: b :: c :: r ∧ r.length = 5 ∧ a < 256 ∧ b < 256 ∧ c < 256 ∧ epN l = a * 65536 + b * 256 + c := by
  obtain ⟨a, b, c, d, e, f, g, h, rfl⟩ : ∃ a b c d e f g h, l = [a, b, c, d, e, f, g, h] := by
    match l, h8 with
    | [a, b, c, d, e, f, g, h], _ => exact ⟨a, b, c, d, e, f, g, h, rfl⟩
  have h := hb
  exact ⟨a, b, c, _, rfl, rfl, hb _ (by simp), hb _ (by simp), hb _ (by simp), epN8 (hb _ (by simp)) (hb _ (by simp)) (hb _ (by simp)) (hb _ (by simp)) (hb _ (by simp))⟩
theorem epN_stamp {p : Pc} (h : p.ok) : epN (bytesN (stampN p) 8) = p.ep := by
  have h1 := h.1
  have h2 := h.2.1
  unfold epN
  rw [numOf_bytesN]
  have hs : stampN p % 256 ^ 8 = stampN p := Nat.mod_eq_of_lt (by unfold stampN; omega)
  rw [hs]
  unfold stampN
  omega
theorem stamp_inj {p q : Pc} (hp : p.ok) (hq : q.ok) (h : bytesN (stampN p) 8 = bytesN (stampN q) 8) : p.ep = q.ep ∧ p.ct = q.ct := by
  have h1 := congrArg numOf h
  rw [numOf_bytesN, numOf_bytesN] at h1
  have hs : stampN p % 256 ^ 8 = stampN p := Nat.mod_eq_of_lt (by have := hp.1; have := hp.2.1; unfold stampN; omega)
  have ht : stampN q % 256 ^ 8 = stampN q := Nat.mod_eq_of_lt (by have := hq.1; have := hq.2.1; unfold stampN; omega)
  rw [hs, ht] at h1
  have a1 := hp.1
  have a2 := hp.2.1
  have a3 := hq.1
  have a4 := hq.2.1
  unfold stampN at h1
  omega
theorem unseal_ends {b : List Nat} {p : Pc} (hb : ∀ x ∈ b, x < 256) (h : unsealB b = some p) : p.ok ∧ b.length = 128 ∧ b.take 8 = bytesN (stampN p) 8 ∧ b.drop 120 = bytesN (stampN p) 8 := by
  have hok := (unsealB_ok hb h).1
  have hs := seal_unseal h
  refine ⟨hok, by rw [← hs, sealB_len], by rw [← hs]; exact seal_front p hok.2.2, by rw [← hs]; exact seal_back p⟩
/-- What a sector may be where an epoch's pieces are written: its ends are elder, or it is such a piece. -/
structure Sect (E : Nat) (X : List Nat) : Prop where
  len : X.length = 128
  byt : ∀ x ∈ X, x < 256
  fe : epN (X.take 8) ≤ E
  be : epN (X.drop 120) ≤ E
  hi : epN (X.drop 120) / 256 ≤ epN (X.take 8) / 256
  old : (epN (X.take 8) < E ∧ epN (X.drop 120) < E) ∨ ∃ p, unsealB X = some p ∧ p.ep = E
theorem take_torn {k n : Nat} {a b : List Nat} (ha : a.length = 128) (hb : b.length = 128) (hn : n ≤ 128) : (tornB k a b).take n = (a.take n).take k ++ (b.take n).drop k := by
  unfold tornB
  rw [List.take_append, List.take_take, List.take_take, List.length_take, List.take_drop, Nat.min_comm]
  by_cases hk : k ≤ 128
  · rw [show n - min k a.length = n - k by omega]
    by_cases hkn : k ≤ n
    · rw [show k + (n - k) = n by omega]
    · have e1 : (b.take n).drop k = [] := List.drop_eq_nil_of_le (by rw [List.length_take]; omega)
      have e2 : (b.take (k + (n - k))).drop k = [] := List.drop_eq_nil_of_le (by rw [List.length_take]; omega)
      rw [e1, e2]
  · have e1 : (b.take n).drop k = [] := List.drop_eq_nil_of_le (by rw [List.length_take]; omega)
    have e2 : (b.take (k + (n - min k a.length))).drop k = [] := List.drop_eq_nil_of_le (by rw [List.length_take]; omega)
    rw [e1, e2]
theorem drop_torn {k : Nat} {a b : List Nat} (ha : a.length = 128) : (tornB k a b).drop 120 = (a.drop 120).take (k - 120) ++ (b.drop 120).drop (k - 120) := by
  unfold tornB
  rw [List.drop_append, List.length_take, List.drop_take, List.drop_drop, List.drop_drop]
  congr 2
  omega
theorem ar1 {E a b c a' b' c' : Nat} (h1 : E = a * 65536 + b * 256 + c) (hE : E < 65536) (h2 : a' * 65536 + b' * 256 + c' < E) : a = a' := by omega
theorem ar2 {E a b c a' b' c' a'' c'' : Nat} (h1 : E = a * 65536 + b * 256 + c) (hE : E < 65536) (hc : c < 256) (hc' : c' < 256) (hc'' : c'' < 256) (h2 : a' * 65536 + b' * 256 + c' < E) (h3 : a'' * 65536 + b * 256 + c'' < E)
    (hh : (a'' * 65536 + b * 256 + c'') / 256 ≤ (a' * 65536 + b' * 256 + c') / 256) : a = a' ∧ b = b' := by omega
/-- A torn sector unseals to the elder one, or the newer one, or not at all. -/
theorem torn_or {E k : Nat} {X : List Nat} {q : Pc} (hX : Sect E X) (hE : E < 65536) (hq : q.ok) (hqd : ∀ x ∈ q.da, x < 256) (hqE : q.ep = E) (hct : ∀ p, unsealB X = some p → p.ep = E → p.ct ≠ q.ct) :
    unsealB (tornB k (sealB q) X) = none ∨ tornB k (sealB q) X = X ∨ tornB k (sealB q) X = sealB q := by
  have hSl := sealB_len q
  have hSb := sealB_lt q hqd hq.2.2
  have hfS := seal_front q hq.2.2
  have hbS := seal_back q
  have heS := epN_stamp hq
  cases hu : unsealB (tornB k (sealB q) X) with
  | none => exact .inl rfl
  | some p' =>
    right
    have hYb : ∀ x ∈ tornB k (sealB q) X, x < 256 := fun x hx => by
      rcases List.mem_append.1 hx with hx | hx
      · exact hSb x (List.mem_of_mem_take hx)
      · exact hX.byt x (List.mem_of_mem_drop hx)
    obtain ⟨hpok, hYl, hf, hb⟩ := unseal_ends hYb hu
    have hfb : (tornB k (sealB q) X).take 8 = (tornB k (sealB q) X).drop 120 := hf.trans hb.symm
    rw [take_torn hSl hX.len (by decide), drop_torn hSl, hfS, hbS] at hfb
    obtain ⟨s, hs⟩ : ∃ s, bytesN (stampN q) 8 = s := ⟨_, rfl⟩
    have hsl : s.length = 8 := by rw [← hs, bytesN_len]
    have hsb : ∀ x ∈ s, x < 256 := by rw [← hs]; exact bytesN_lt _ _
    rw [hs] at hfb hfS hbS heS
    have hfl : (X.take 8).length = 8 := by rw [List.length_take, hX.len]; rfl
    have hbl : (X.drop 120).length = 8 := by rw [List.length_drop, hX.len]
    have hXf : ∀ x ∈ X.take 8, x < 256 := fun x hx => hX.byt x (List.mem_of_mem_take hx)
    have hXb : ∀ x ∈ X.drop 120, x < 256 := fun x hx => hX.byt x (List.mem_of_mem_drop hx)
    by_cases hk128 : 128 ≤ k
    · right
      unfold tornB
      rw [List.take_of_length_le (by omega), List.drop_eq_nil_of_le (by rw [hX.len]; omega), List.append_nil]
    by_cases hk8 : 8 ≤ k
    · have z1 : (X.take 8).drop k = [] := List.drop_eq_nil_of_le (by rw [hfl]; omega)
      have z2 : s.take k = s := List.take_of_length_le (by rw [hsl]; omega)
      rw [z1, z2, List.append_nil] at hfb
      by_cases hk120 : k ≤ 120
      · exfalso
        rw [show k - 120 = 0 by omega, List.take_zero, List.nil_append, List.drop_zero] at hfb
        rcases hX.old with ⟨_, h2⟩ | ⟨p, hp, hpe⟩
        · rw [← hfb, heS] at h2
          omega
        · obtain ⟨ok1, _, _, h4⟩ := unseal_ends hX.byt hp
          have := (stamp_inj ok1 hq (by rw [← h4, ← hfb, hs])).2
          exact hct p hp hpe this
      · right
        -- the rest of both is the same
        have h1 : (X.drop 120).drop (k - 120) = s.drop (k - 120) := by
          have e := congrArg (List.drop (k - 120)) hfb
          rw [List.drop_left' (by rw [List.length_take, hsl]; omega)] at e
          exact e.symm
        rw [← hbS, List.drop_drop, List.drop_drop, show 120 + (k - 120) = k by omega] at h1
        unfold tornB
        rw [h1, List.take_append_drop]
    · left
      rw [show k - 120 = 0 by omega, List.take_zero, List.nil_append, List.drop_zero] at hfb
      -- where the first k bytes are the same, so is the sector
      have key : s.take k = (X.take 8).take k → tornB k (sealB q) X = X := fun h => by
        unfold tornB
        rw [← hfS, List.take_take, List.take_take, Nat.min_eq_left (by omega)] at h
        rw [h, List.take_append_drop]
      rcases hX.old with ⟨h1, h2⟩ | ⟨p, hp, hpe⟩
      · obtain ⟨a, b, c, r, hsd, hr, ha1, hb1, hc1, he1⟩ := epN_hi hsl hsb
        obtain ⟨a', b', c', r', hfd, hr', ha2, hb2, hc2, he2⟩ := epN_hi hfl hXf
        obtain ⟨a'', b'', c'', r'', hbd, hr'', ha3, hb3, hc3, he3⟩ := epN_hi hbl hXb
        have hhi := hX.hi
        rw [hsd, hfd, hbd] at hfb
        rw [hsd, hfd] at key
        rw [he2, he3] at hhi
        rw [he2] at h1
        rw [he3] at h2
        have he1 : a * 65536 + b * 256 + c = E := by rw [← he1, heS, hqE]
        clear hu hYb hpok hYl hf hb hSl hSb hfS hbS hs hsl hsb hfl hbl hXf hXb hct hX hq hqd hfd hbd hsd heS
        rcases k with _ | _ | _ | k
        · exact key rfl
        · refine key ?_
          rw [ar1 he1.symm hE h1]
          rfl
        · simp only [List.take_succ_cons, List.take_zero, List.drop_succ_cons, List.drop_zero, List.cons_append, List.nil_append, List.cons.injEq] at hfb
          obtain ⟨f1, f2, -⟩ := hfb
          subst f2
          refine key ?_
          obtain ⟨g1, g2⟩ := ar2 he1.symm hE hc1 hc2 hc3 h1 h2 hhi
          rw [g1, g2]
          rfl
        · exfalso
          simp only [List.take_succ_cons, List.cons_append, List.cons.injEq] at hfb
          obtain ⟨f1, f2, f3, -⟩ := hfb
          subst f1 f2 f3
          omega
      · obtain ⟨_, _, h3, h4⟩ := unseal_ends hX.byt hp
        refine key ?_
        have e : X.drop 120 = X.take 8 := h4.trans h3.symm
        rw [e] at hfb
        have := congrArg (List.take k) hfb
        rwa [List.take_left' (by rw [List.length_take, hsl]; omega)] at this
theorem epN3 {a b c : Nat} {r : List Nat} (hr : r.length = 5) (hb : ∀ x ∈ r, x < 256) : epN (a :: b :: c :: r) = a * 65536 + b * 256 + c := by
  match r, hr with
  | [d, e, f, g, h], _ => exact epN8 (hb _ (by simp)) (hb _ (by simp)) (hb _ (by simp)) (hb _ (by simp)) (hb _ (by simp))
/-- Eight bytes of which the first are another's: their epoch. -/
theorem epN_mix {s x : List Nat} (hs : s.length = 8) (hx : x.length = 8) (hsb : ∀ y ∈ s, y < 256) (hxb : ∀ y ∈ x, y < 256) (h1 : epN s < 65536) (h2 : epN x < 65536) (j : Nat) :
    epN (s.take j ++ x.drop j) = epN x ∨ epN (s.take j ++ x.drop j) = epN s / 256 * 256 + epN x % 256 ∨ epN (s.take j ++ x.drop j) = epN s := by
  obtain ⟨a, b, c, r, rfl, hr, ha1, hb1, hc1, he1⟩ := epN_hi hs hsb
  obtain ⟨a', b', c', r', rfl, hr', ha2, hb2, hc2, he2⟩ := epN_hi hx hxb
  rw [he1] at h1 ⊢
  rw [he2] at h2 ⊢
  have hrb : ∀ y ∈ r, y < 256 := fun y hy => hsb y (by simp [hy])
  have hrb' : ∀ y ∈ r', y < 256 := fun y hy => hxb y (by simp [hy])
  clear hsb hxb hs hx
  rcases j with _ | _ | _ | j
  · left
    exact epN3 hr' hrb'
  · left
    have := epN3 (a := a) (b := b') (c := c') hr' hrb'
    refine Eq.trans ?_ (this.trans ?_)
    · rfl
    · omega
  · right; left
    have := epN3 (a := a) (b := b) (c := c') hr' hrb'
    refine Eq.trans ?_ (this.trans ?_)
    · rfl
    · omega
  · right; right
    have hl : (r.take j ++ r'.drop j).length = 5 := by
      rw [List.length_append, List.length_take, List.length_drop]
      omega
    have hb3 : ∀ y ∈ r.take j ++ r'.drop j, y < 256 := fun y hy => by
      rcases List.mem_append.1 hy with hy | hy
      · exact hrb y (List.mem_of_mem_take hy)
      · exact hrb' y (List.mem_of_mem_drop hy)
    exact epN3 (a := a) (b := b) (c := c) hl hb3
theorem torn_len {k : Nat} {a b : List Nat} (ha : a.length = 128) (hb : b.length = 128) : (tornB k a b).length = 128 := by
  unfold tornB
  rw [List.length_append, List.length_take, List.length_drop]
  omega
theorem torn_lt {k : Nat} {a b : List Nat} (ha : ∀ x ∈ a, x < 256) (hb : ∀ x ∈ b, x < 256) : ∀ x ∈ tornB k a b, x < 256 := fun x hx => by
  rcases List.mem_append.1 hx with hx | hx
  · exact ha x (List.mem_of_mem_take hx)
  · exact hb x (List.mem_of_mem_drop hx)
/-- What sound sectors' ends are where no epoch is known. -/
structure SectA (M : Nat) (X : List Nat) : Prop where
  len : X.length = 128
  byt : ∀ x ∈ X, x < 256
  fe : epN (X.take 8) ≤ M
  be : epN (X.drop 120) ≤ M
  hi : epN (X.drop 120) / 256 ≤ epN (X.take 8) / 256
theorem Sect.a {E : Nat} {X : List Nat} (h : Sect E X) : SectA E X := ⟨h.len, h.byt, h.fe, h.be, h.hi⟩
theorem SectA.mono {M N : Nat} {X : List Nat} (h : SectA M X) (hM : M ≤ N) : SectA N X := ⟨h.len, h.byt, Nat.le_trans h.fe hM, Nat.le_trans h.be hM, h.hi⟩
theorem SectA.next {M E : Nat} {X : List Nat} (h : SectA M X) (hM : M < E) : Sect E X := ⟨h.len, h.byt, by have := h.fe; omega, by have := h.be; omega, h.hi, .inl ⟨by have := h.fe; omega, by have := h.be; omega⟩⟩
/-- A sector torn: its ends. -/
theorem torn_ends {E k : Nat} {X : List Nat} {q : Pc} (hX : SectA E X) (hE : E < 65536) (hq : q.ok) (hqd : ∀ x ∈ q.da, x < 256) (hqE : q.ep = E) : SectA (E / 256 * 256 + 255) (tornB k (sealB q) X) := by
  have hSl := sealB_len q
  have hSb := sealB_lt q hqd hq.2.2
  have hfS := seal_front q hq.2.2
  have hbS := seal_back q
  have heS := epN_stamp hq
  rw [hqE] at heS
  have hsl : (bytesN (stampN q) 8).length = 8 := bytesN_len _ _
  have hsb : ∀ x ∈ bytesN (stampN q) 8, x < 256 := bytesN_lt _ _
  have hfl : (X.take 8).length = 8 := by rw [List.length_take, hX.len]; rfl
  have hbl : (X.drop 120).length = 8 := by rw [List.length_drop, hX.len]
  have hXf : ∀ x ∈ X.take 8, x < 256 := fun x hx => hX.byt x (List.mem_of_mem_take hx)
  have hXb : ∀ x ∈ X.drop 120, x < 256 := fun x hx => hX.byt x (List.mem_of_mem_drop hx)
  have h1 := hX.fe
  have h2 := hX.be
  have h3 := hX.hi
  have ef : (tornB k (sealB q) X).take 8 = (bytesN (stampN q) 8).take k ++ (X.take 8).drop k := by rw [take_torn hSl hX.len (by decide), hfS]
  have eb : (tornB k (sealB q) X).drop 120 = (bytesN (stampN q) 8).take (k - 120) ++ (X.drop 120).drop (k - 120) := by rw [drop_torn hSl, hbS]
  have mf := epN_mix hsl hfl hsb hXf (by omega) (by omega) k
  have mb := epN_mix hsl hbl hsb hXb (by omega) (by omega) (k - 120)
  rw [← ef] at mf
  rw [← eb] at mb
  rw [heS] at mf mb
  have hk0 : k ≤ 120 → epN ((tornB k (sealB q) X).drop 120) = epN (X.drop 120) := fun h => by
    rw [eb, show k - 120 = 0 by omega]
    rfl
  have hk8 : 120 < k → epN ((tornB k (sealB q) X).take 8) = E := fun h => by
    rw [ef, List.take_of_length_le (by rw [hsl]; omega)]
    have z : (X.take 8).drop k = [] := List.drop_eq_nil_of_le (by rw [hfl]; omega)
    rw [z, List.append_nil, heS]
  have key : epN ((tornB k (sealB q) X).take 8) ≤ E / 256 * 256 + 255 ∧ epN ((tornB k (sealB q) X).drop 120) ≤ E / 256 * 256 + 255 ∧ epN ((tornB k (sealB q) X).drop 120) / 256 ≤ epN ((tornB k (sealB q) X).take 8) / 256 := by
    clear ef eb hfS hbS heS hsl hsb hfl hbl hXf hXb hX hq hqd hqE
    generalize epN ((tornB k (sealB q) X).take 8) = f at *
    generalize epN ((tornB k (sealB q) X).drop 120) = b at *
    generalize epN (X.take 8) = fx at *
    generalize epN (X.drop 120) = bx at *
    refine ⟨by omega, by omega, ?_⟩
    by_cases h120 : k ≤ 120
    · have := hk0 h120
      omega
    · have := hk8 (by omega)
      omega
  exact ⟨torn_len hSl hX.len, torn_lt hSb hX.byt, key.1, key.2.1, key.2.2⟩
theorem seal_sect {q : Pc} (hq : q.ok) (hqd : ∀ x ∈ q.da, x < 256) : Sect q.ep (sealB q) := by
  have hfS := seal_front q hq.2.2
  have hbS := seal_back q
  have heS := epN_stamp hq
  refine ⟨sealB_len q, sealB_lt q hqd hq.2.2, ?_, ?_, ?_, .inr ⟨q, unseal_seal hq, rfl⟩⟩
  · rw [hfS, heS]; exact Nat.le_refl _
  · rw [hbS, heS]; exact Nat.le_refl _
  · rw [hfS, hbS]; exact Nat.le_refl _
end Go.Tn.Lp

/- Places that are given up by turns: plain. No program. -/
namespace Go.Tn.Ck
structure Pl where
  used : Bool
  pinned : Bool
  marked : Bool
/-- Places, a hand. -/
structure Rn where
  L : List Pl
  hand : Nat
def Pl.no : Pl := ⟨false, false, false⟩
def Rn.at_ (r : Rn) (i : Nat) : Pl := (r.L[i]?).getD Pl.no
def Rn.put (r : Rn) (i : Nat) (p : Pl) : Rn := { r with L := r.L.set i p }
def Rn.use (r : Rn) (i : Nat) : Rn := r.put i ⟨true, false, true⟩
def Rn.drop (r : Rn) (i : Nat) : Rn := r.put i Pl.no
def Rn.touch (r : Rn) (i : Nat) : Rn := if (r.at_ i).used then r.put i { r.at_ i with marked := true } else r
def Rn.pin (r : Rn) (i : Nat) : Rn := if (r.at_ i).used then r.put i { r.at_ i with pinned := true } else r
/-- One step of the hand. -/
def Rn.step (r : Rn) : Rn × Option Nat :=
  if (r.at_ r.hand).pinned then ({ r with hand := (r.hand + 1) % r.L.length }, none)
  else if (r.at_ r.hand).marked then ({ L := r.L.set r.hand { r.at_ r.hand with marked := false }, hand := (r.hand + 1) % r.L.length }, none)
  else ({ r with hand := (r.hand + 1) % r.L.length }, some r.hand)
def Rn.scan : Nat → Rn → Rn × Option Nat
  | 0, r => (r, none)
  | k + 1, r => match r.step with
    | (r', some i) => (r', some i)
    | (r', none) => Rn.scan k r'
def Rn.free (r : Rn) : Option Nat := (List.range r.L.length).find? fun i => !(r.at_ i).used
def Rn.allPinned (r : Rn) : Bool := r.L.all (·.pinned)
/-- Which place is to be given up. -/
def Rn.next (r : Rn) : Rn × Int × Nat := match r.free with
  | some i => (r, (i : Int), 0)
  | none => if r.allPinned then (r, -1, 8) else match r.scan (2 * r.L.length) with
    | (r', some i) => (r', (i : Int), 0)
    | (r', none) => (r', -1, 8)
theorem step_len (r : Rn) : r.step.1.L.length = r.L.length := by
  unfold Rn.step
  split
  · rfl
  · split
    · simp
    · rfl
theorem step_hand (r : Rn) : r.step.1.hand = (r.hand + 1) % r.L.length := by
  unfold Rn.step
  split
  · rfl
  · split <;> rfl
theorem scan_len : ∀ (k : Nat) (r : Rn), (r.scan k).1.L.length = r.L.length
  | 0, r => rfl
  | k + 1, r => by
    unfold Rn.scan
    have h := step_len r
    rcases hs : r.step with ⟨r', _ | i⟩
    · rw [hs] at h
      simp only
      rw [scan_len k r', h]
    · rw [hs] at h
      exact h
theorem scan_hand : ∀ (k : Nat) (r : Rn), r.hand < r.L.length → (r.scan k).1.hand < r.L.length
  | 0, r, h => h
  | k + 1, r, h => by
    unfold Rn.scan
    have hl := step_len r
    have hh := step_hand r
    have hm := Nat.mod_lt (r.hand + 1) (show 0 < r.L.length by omega)
    rcases hs : r.step with ⟨r', _ | i⟩
    · rw [hs] at hl hh
      simp only at hl hh ⊢
      have := scan_hand k r' (by omega)
      omega
    · rw [hs] at hh
      simp only at hh ⊢
      omega
theorem scan_snoc : ∀ (k : Nat) (r : Rn), (r.scan k).2 = none → r.scan (k + 1) = (r.scan k).1.step
  | 0, r, _ => by
    show (match r.step with | (r', some i) => (r', some i) | (r', none) => Rn.scan 0 r') = r.step
    rcases hs : r.step with ⟨r', _ | i⟩ <;> rfl
  | k + 1, r, h => by
    rw [Rn.scan] at h ⊢
    conv => rhs; rw [Rn.scan]
    rcases hs : r.step with ⟨r', _ | i⟩
    · rw [hs] at h
      exact scan_snoc k r' h
    · rw [hs] at h
      cases h
theorem scan_none_le : ∀ {k j : Nat} {r : Rn}, j ≤ k → (r.scan k).2 = none → (r.scan j).2 = none
  | k, 0, r, _, _ => rfl
  | 0, j + 1, r, h, _ => absurd h (by omega)
  | k + 1, j + 1, r, h, hn => by
    rw [Rn.scan] at hn ⊢
    rcases hs : r.step with ⟨r', _ | i⟩
    · rw [hs] at hn
      exact scan_none_le (by omega) hn
    · rw [hs] at hn
      cases hn
/-- Who is there when the hand goes on. -/
theorem at_step {r : Rn} (h : r.hand < r.L.length) (i : Nat) : (r.step.1.at_ i).pinned = (r.at_ i).pinned ∧ ((r.step.1.at_ i).marked = true → (r.at_ i).marked = true) ∧ (r.step.2 = none → i = r.hand → (r.at_ i).pinned = true ∨ (r.step.1.at_ i).marked = false) := by
  unfold Rn.step
  by_cases hp : (r.at_ r.hand).pinned
  · rw [if_pos hp]
    exact ⟨rfl, id, fun _ e => .inl (e ▸ hp)⟩
  · rw [if_neg hp]
    by_cases hm : (r.at_ r.hand).marked
    · rw [if_pos hm]
      by_cases hi : i = r.hand
      · subst hi
        have e : ({ L := r.L.set r.hand { r.at_ r.hand with marked := false }, hand := (r.hand + 1) % r.L.length } : Rn).at_ r.hand = { r.at_ r.hand with marked := false } := by
          unfold Rn.at_
          simp [h]
        rw [e]
        exact ⟨rfl, (fun e => by cases e), fun _ _ => .inr rfl⟩
      · have e : ({ L := r.L.set r.hand { r.at_ r.hand with marked := false }, hand := (r.hand + 1) % r.L.length } : Rn).at_ i = r.at_ i := by
          unfold Rn.at_
          rw [List.getElem?_set, if_neg (fun e => hi e.symm)]
        rw [e]
        exact ⟨rfl, id, fun _ e => absurd e hi⟩
    · rw [if_neg hm]
      exact ⟨rfl, id, (fun e => by cases e)⟩
theorem mod_add_one {h k n : Nat} : ((h + k) % n + 1) % n = (h + (k + 1)) % n := by rw [Nat.mod_add_mod]; rfl
/-- What the first steps leave, where they find none. -/
theorem scan_inv {r : Rn} (h : r.hand < r.L.length) : ∀ k, (r.scan k).2 = none → (r.scan k).1.hand = (r.hand + k) % r.L.length ∧ (∀ i, ((r.scan k).1.at_ i).pinned = (r.at_ i).pinned) ∧
    (∀ i, ((r.scan k).1.at_ i).marked = true → (r.at_ i).marked = true) ∧ ∀ j, j < k → (r.at_ ((r.hand + j) % r.L.length)).pinned = true ∨ ((r.scan k).1.at_ ((r.hand + j) % r.L.length)).marked = false
  | 0, _ => ⟨by show r.hand = _; rw [Nat.add_zero, Nat.mod_eq_of_lt h], fun _ => rfl, fun _ => id, fun j hj => absurd hj (Nat.not_lt_zero j)⟩
  | k + 1, hn => by
    have hn' := scan_none_le (Nat.le_succ k) hn
    obtain ⟨e1, e2, e3, e4⟩ := scan_inv h k hn'
    have hs := scan_snoc k r hn'
    rw [hs] at hn ⊢
    have hl := scan_len k r
    have hh := scan_hand k r h
    have ha := fun i => at_step (r := (r.scan k).1) (by rw [hl]; exact hh) i
    refine ⟨?_, fun i => (ha i).1.trans (e2 i), fun i hi => e3 i ((ha i).2.1 hi), fun j hj => ?_⟩
    · rw [step_hand, hl, e1, mod_add_one]
    · by_cases hjk : j < k
      · refine (e4 j hjk).imp id fun hm => ?_
        cases hq : ((r.scan k).1.step.1.at_ ((r.hand + j) % r.L.length)).marked with
        | false => rfl
        | true =>
          have := (ha _).2.1 hq
          rw [hm] at this
          cases this
      · obtain rfl : j = k := by omega
        refine ((ha _).2.2 hn e1.symm).imp (fun hp => ?_) id
        rw [← e2]
        exact hp
/-- Where one is not pinned the hand finds one. -/
theorem scan_some {r : Rn} (h : r.hand < r.L.length) (hp : r.allPinned = false) : ∃ i, (r.scan (2 * r.L.length)).2 = some i := by
  cases hn : (r.scan (2 * r.L.length)).2 with
  | some i => exact ⟨i, rfl⟩
  | none =>
    exfalso
    have hn0 : 0 < r.L.length := by omega
    obtain ⟨j, hj, hjp⟩ : ∃ j, j < r.L.length ∧ (r.at_ j).pinned = false := by
      unfold Rn.allPinned at hp
      obtain ⟨p, hp1, hp2⟩ := List.all_eq_false.1 hp
      obtain ⟨j, hj⟩ := List.getElem?_of_mem hp1
      refine ⟨j, (List.getElem?_eq_some_iff.1 hj).1, ?_⟩
      unfold Rn.at_
      rw [hj]
      simpa using hp2
    -- the place lies k steps ahead
    obtain ⟨k, hk, hkj⟩ : ∃ k, k < r.L.length ∧ (r.hand + k) % r.L.length = j := by
      by_cases hc : r.hand ≤ j
      · exact ⟨j - r.hand, by omega, by rw [show r.hand + (j - r.hand) = j by omega, Nat.mod_eq_of_lt hj]⟩
      · exact ⟨r.L.length + j - r.hand, by omega, by rw [show r.hand + (r.L.length + j - r.hand) = j + r.L.length by omega, Nat.add_mod_right, Nat.mod_eq_of_lt hj]⟩
    have hnk := scan_none_le (show r.L.length + k + 1 ≤ 2 * r.L.length by omega) hn
    have hnk0 := scan_none_le (show r.L.length + k ≤ r.L.length + k + 1 by omega) hnk
    obtain ⟨e1, e2, e3, e4⟩ := scan_inv h _ hnk0
    have hs := scan_snoc _ r hnk0
    rw [hs] at hnk
    have hhand : (r.scan (r.L.length + k)).1.hand = j := by rw [e1, show r.hand + (r.L.length + k) = r.hand + k + r.L.length by omega, Nat.add_mod_right, hkj]
    have h4 := e4 k (by omega)
    rw [hkj, hjp] at h4
    have hm : ((r.scan (r.L.length + k)).1.at_ j).marked = false := by
      rcases h4 with h4 | h4
      · cases h4
      · exact h4
    have hpp : ((r.scan (r.L.length + k)).1.at_ j).pinned = false := by rw [e2, hjp]
    unfold Rn.step at hnk
    rw [hhand, hpp, hm] at hnk
    simp at hnk
theorem scan_stop : ∀ {j m : Nat} {r : Rn} {i : Nat}, j ≤ m → (r.scan j).2 = some i → r.scan m = r.scan j
  | 0, m, r, i, _, h => by cases h
  | j + 1, 0, r, i, hj, _ => absurd hj (by omega)
  | j + 1, m + 1, r, i, hj, h => by
    rw [Rn.scan] at h ⊢
    conv => rhs; rw [Rn.scan]
    rcases hs : r.step with ⟨r', _ | q⟩
    · rw [hs] at h
      exact scan_stop (by omega) h
    · rfl
theorem free_none {r : Rn} (h : ∀ j, j < r.L.length → (r.at_ j).used = true) : r.free = none := by
  unfold Rn.free
  rw [List.find?_eq_none]
  intro j hj
  rw [h j (List.mem_range.1 hj)]
  simp
theorem find_range {p : Nat → Bool} : ∀ {n k : Nat}, k < n → p k = true → (∀ j, j < k → p j = false) → (List.range n).find? p = some k
  | 0, k, h, _, _ => absurd h (Nat.not_lt_zero k)
  | n + 1, k, h, hp, hn => by
    rw [List.range_succ, List.find?_append]
    by_cases hk : k < n
    · rw [find_range hk hp hn]
      rfl
    · obtain rfl : k = n := by omega
      have : (List.range k).find? p = none := List.find?_eq_none.2 fun j hj => by rw [hn j (List.mem_range.1 hj)]; simp
      rw [this]
      simp [hp]
theorem free_some {r : Rn} {k : Nat} (hk : k < r.L.length) (h : (r.at_ k).used = false) (hn : ∀ j, j < k → (r.at_ j).used = true) : r.free = some k :=
  find_range hk (by rw [h]; rfl) (fun j hj => by rw [hn j hj]; rfl)
end Go.Tn.Ck

/- Places that are given up by turns: a ring in memory; has, with, turn. -/
namespace Go.Tn.Ck
open Go.Tn.Bits
/-- A set of places as a number. -/
def sN (f : Nat → Bool) : Nat := num (fun j => f (63 - j)) 64
theorem sN_lt (f : Nat → Bool) : sN f < 18446744073709551616 := num_lt _ 64
theorem sN_bit (f : Nat → Bool) {i : Nat} (h : i < 64) : (sN f).testBit i = f i := by
  unfold sN
  rw [testBit_num, decide_eq_true h, Bool.true_and]
  congr 1
  omega
theorem sN_congr {f g : Nat → Bool} (h : ∀ i, i < 64 → f i = g i) : sN f = sN g := num_congr fun j hj => h _ (by omega)
theorem sN_inj {f g : Nat → Bool} (h : sN f = sN g) {i : Nat} (hi : i < 64) : f i = g i := by rw [← sN_bit f hi, ← sN_bit g hi, h]
theorem sN_or (f : Nat → Bool) {i : Nat} (h : i < 64) : sN f ||| 2 ^ i = sN (setB f i true) := by
  have e := num_or (fun j => f (63 - j)) (m := 64) (i := 63 - i) (by omega)
  rw [show 64 - 1 - (63 - i) = i by omega] at e
  unfold sN
  rw [e]
  refine num_congr fun j hj => ?_
  unfold setB
  by_cases hc : j = 63 - i
  · rw [if_pos hc, if_pos (by omega)]
  · rw [if_neg hc, if_neg (by omega)]
theorem sN_not (f : Nat → Bool) {i : Nat} (h : i < 64) : sN f &&& (2 ^ 64 - (2 ^ i + 1)) = sN (setB f i false) := by
  have e := num_andNot (fun j => f (63 - j)) (i := 63 - i) (by omega)
  rw [show 63 - (63 - i) = i by omega] at e
  unfold sN
  rw [e]
  refine num_congr fun j hj => ?_
  unfold setB
  by_cases hc : j = 63 - i
  · rw [if_pos hc, if_pos (by omega)]
  · rw [if_neg hc, if_neg (by omega)]
def Rn.uF (r : Rn) : Nat → Bool := fun i => (r.at_ i).used
def Rn.pF (r : Rn) : Nat → Bool := fun i => (r.at_ i).pinned
def Rn.mF (r : Rn) : Nat → Bool := fun i => (r.at_ i).marked
theorem at_put {r : Rn} {i : Nat} (hi : i < r.L.length) (p : Pl) (j : Nat) : (r.put i p).at_ j = if j = i then p else r.at_ j := by
  unfold Rn.at_ Rn.put
  simp only
  rw [List.getElem?_set]
  by_cases h : j = i
  · subst h
    rw [if_pos rfl, if_pos rfl, if_pos hi]
    rfl
  · rw [if_neg h, if_neg (fun e => h e.symm)]
theorem put_uF {r : Rn} {i : Nat} (hi : i < r.L.length) (p : Pl) : (r.put i p).uF = setB r.uF i p.used := by
  funext j
  unfold Rn.uF setB
  rw [at_put hi]
  split <;> rfl
theorem put_pF {r : Rn} {i : Nat} (hi : i < r.L.length) (p : Pl) : (r.put i p).pF = setB r.pF i p.pinned := by
  funext j
  unfold Rn.pF setB
  rw [at_put hi]
  split <;> rfl
theorem put_mF {r : Rn} {i : Nat} (hi : i < r.L.length) (p : Pl) : (r.put i p).mF = setB r.mF i p.marked := by
  funext j
  unfold Rn.mF setB
  rw [at_put hi]
  split <;> rfl
theorem bit_mod (f : Nat → Bool) {i : Nat} (h : i < 64) : sN f / 2 ^ i % 2 = (f i).toNat := by
  have := sN_bit f h
  rw [Nat.testBit_eq_decide_div_mod_eq] at this
  rw [← this]
  have h2 : sN f / 2 ^ i % 2 = 0 ∨ sN f / 2 ^ i % 2 = 1 := by omega
  rcases h2 with h2 | h2 <;> rw [h2] <;> rfl
end Go.Tn.Ck
namespace Go.Proofs.YtldimgchpgoggaaGreat
open Go.RowKit Go.Tn Go.Tn.Bits Go.Tn.Ck
/-- A ring's cells. -/
def rgC (r : Rn) : Array Value := #[.int .i64 (r.L.length : Nat), .int .u64 (sN r.uF : Nat), .int .u64 (sN r.pF : Nat), .int .u64 (sN r.mF : Nat), .int .i64 (r.hand : Nat)]
structure RgAt (w : World) (b : Nat) (r : Rn) : Prop where
  blk : w.heap[b]? = some (.cells (rgC r) 145 (0, 0))
  lo : 1 ≤ r.L.length
  hi : r.L.length ≤ 64
  hand : r.hand < r.L.length
section
variable {w w' : World} {b : Nat} {r : Rn}
theorem RgAt.below (h : RgAt w b r) (hb : Below w.heap.size w w') : RgAt w' b r := ⟨(hb.block b (lt_of_block h.blk)).trans h.blk, h.lo, h.hi, h.hand⟩
theorem RgAt.mod {S : Nat → Prop} (h : RgAt w b r) (hm : Mod S w w') (hS : ¬ S b) : RgAt w' b r := ⟨hm.heap h.blk hS, h.lo, h.hi, h.hand⟩
theorem RgAt.c0 (h : RgAt w b r) : w.cell? ⟨b, 0, none⟩ = some (.int .i64 (r.L.length : Nat)) := cell_of h.blk rfl
theorem RgAt.c1 (h : RgAt w b r) : w.cell? ⟨b, 1, none⟩ = some (.int .u64 (sN r.uF : Nat)) := cell_of h.blk rfl
theorem RgAt.c2 (h : RgAt w b r) : w.cell? ⟨b, 2, none⟩ = some (.int .u64 (sN r.pF : Nat)) := cell_of h.blk rfl
theorem RgAt.c3 (h : RgAt w b r) : w.cell? ⟨b, 3, none⟩ = some (.int .u64 (sN r.mF : Nat)) := cell_of h.blk rfl
theorem RgAt.c4 (h : RgAt w b r) : w.cell? ⟨b, 4, none⟩ = some (.int .i64 (r.hand : Nat)) := cell_of h.blk rfl
theorem khas_any (w : World) (f : Nat → Bool) (i : Nat) (hi : i < 64) : Calls Tryz.prog 87 #[.int .u64 (sN f : Nat), .int .i64 i] w fun e w' => e = .returned (.bool (f i)) ∧ w' = w := by
  have hb : bits .and .u64 (((sN f : Nat) : Int) / 2 ^ i) 1 = (((f i).toNat : Nat) : Int) := by
    have h1 : sN f / 2 ^ i < 18446744073709551616 := Nat.lt_of_le_of_lt (Nat.div_le_self _ _) (sN_lt f)
    have h2 : ((sN f : Nat) : Int) / 2 ^ i = ((sN f / 2 ^ i : Nat) : Int) := by rw [Int.natCast_ediv, Int.natCast_pow]; rfl
    rw [h2, show (1 : Int) = ((1 : Nat) : Int) from rfl, bits_and _ _ h1 (by decide), Nat.and_one_is_mod, bit_mod f hi]
  generalize sN f = s at *
  go_enter Tryz.func87, Tryz.ntmps87
  go_wp2
  go_ret
  exact ⟨by cases f i <;> rfl, rfl⟩
theorem kwith_any (w : World) (f : Nat → Bool) (i : Nat) (hi : i < 64) (q : Bool) : Calls Tryz.prog 98 #[.int .u64 (sN f : Nat), .int .i64 i, .bool q] w fun e w' => e = .returned (.int .u64 (sN (setB f i q) : Nat)) ∧ w' = w := by
  have hp : IntKind.u64.wrap ((2 : Int) ^ i) = ((2 ^ i : Nat) : Int) := by
    have h2 : (2 : Int) ^ i = ((2 ^ i : Nat) : Int) := by rw [Int.natCast_pow]; rfl
    rw [h2, Bt.wrap64, Nat.mod_eq_of_lt]
    exact Nat.pow_lt_pow_right (by decide) hi
  have hp64 : 2 ^ i < 2 ^ 64 := Nat.pow_lt_pow_right (by decide) hi
  have ho : bits .or .u64 (sN f : Nat) ((2 ^ i : Nat) : Int) = ((sN (setB f i true) : Nat) : Int) := by rw [bits_or _ _ (sN_lt f) hp64, sN_or f hi]
  have hn : bits .andNot .u64 (sN f : Nat) ((2 ^ i : Nat) : Int) = ((sN (setB f i false) : Nat) : Int) := by rw [bits_andNot _ _ (sN_lt f) hp64, sN_not f hi]
  clear hp64
  obtain ⟨p, hpe⟩ : ∃ p : Nat, 2 ^ i = p := ⟨_, rfl⟩
  rw [hpe] at hp ho hn
  clear hpe
  generalize sN f = s at *
  cases q
  · generalize sN (setB f i false) = t at *
    go_enter Tryz.func98, Tryz.ntmps98
    go_wp2
    go_ret
    exact ⟨rfl, rfl⟩
  · generalize sN (setB f i true) = t at *
    go_enter Tryz.func98, Tryz.ntmps98
    go_wp2
    go_ret
    exact ⟨rfl, rfl⟩
theorem kok_any (h : RgAt w b r) : Calls Tryz.prog 97 #[.pointer (some ⟨b, 0, none⟩)] w fun e w' => e = .returned (.bool true) ∧ w' = w := by
  have c0 := h.c0
  have h0 : decide ((0 : Int) < ((r.L.length : Nat) : Int)) = true := decide_eq_true (by have := h.lo; omega)
  have h0' : 0 < r.L.length := h.lo
  clear h
  generalize r.L.length = n at *
  go_enter Tryz.func97, Tryz.ntmps97
  go_wp2
  go_ret
  exact ⟨rfl, rfl⟩
theorem kwrong_any (h : RgAt w b r) (i : Nat) (hi : i < r.L.length) : Calls Tryz.prog 125 #[.pointer (some ⟨b, 0, none⟩), .int .i64 i] w fun e w' => e = .returned (.int .i64 0) ∧ w' = w := by
  have c0 := h.c0
  have hok := kok_any h
  clear h
  generalize r.L.length = n at *
  go_enter Tryz.func125, Tryz.ntmps125
  go_wp2_with (first
    | (go_at_call 97; refine hok.mono ?_; rintro e wt ⟨rfl, hw⟩; obtain rfl := hw.symm; clear hw)
    | fail)
  go_ret
  exact ⟨rfl, rfl⟩
theorem knew_any (w : World) (n : Nat) (h1 : 1 ≤ n) (h2 : n ≤ 64) : Calls Tryz.prog 43 #[.int .i64 n] w fun e w' => ∃ b, e = .returned (.tuple #[.pointer (some ⟨b, 0, none⟩), .int .i64 0]) ∧ RgAt w' b ⟨List.replicate n Pl.no, 0⟩ ∧ Below w.heap.size w w' ∧ w.heap.size ≤ b := by
  have h2' : (n : Int) ≤ 64 := by omega
  have hz : rgC ⟨List.replicate n Pl.no, 0⟩ = #[.int .i64 n, .int .u64 0, .int .u64 0, .int .u64 0, .int .i64 0] := by
    have hp : ∀ i, (⟨List.replicate n Pl.no, 0⟩ : Rn).at_ i = Pl.no := fun i => by
      unfold Rn.at_
      simp only
      rw [List.getElem?_replicate]
      split <;> rfl
    have hs : ∀ f : Nat → Bool, (∀ i, f i = false) → sN f = 0 := fun f hf => num_le_one _ (fun j => hf _) 64
    unfold rgC
    rw [hs _ (fun i => by unfold Rn.uF; rw [hp]; rfl), hs _ (fun i => by unfold Rn.pF; rw [hp]; rfl), hs _ (fun i => by unfold Rn.mF; rw [hp]; rfl)]
    simp
  have HZ := Lib.hid hz
  clear hz
  go_enter Tryz.func43, Tryz.ntmps43
  go_wp2
  go_ret2
  refine ⟨w.heap.size, rfl, ⟨?_, by simpa using h1, by simpa using h2, by simp; omega⟩, (Below.refl _ _).alloc (Nat.le_refl _) _, Nat.le_refl _⟩
  rw [HZ.out]
  exact heap_alloc_at
end
end Go.Proofs.YtldimgchpgoggaaGreat

/- Places that are given up by turns: turn, Use, Drop, Touch, Pin: walked. -/
namespace Go.Proofs.YtldimgchpgoggaaGreat
open Go.RowKit Go.Tn Go.Tn.Bits Go.Tn.Ck
section
variable {w w' : World} {b : Nat} {r : Rn}
theorem put_len (r : Rn) (i : Nat) (p : Pl) : (r.put i p).L.length = r.L.length := by
  unfold Rn.put
  simp
/-- What a call that turns a place leaves. -/
def KPost (w : World) (b : Nat) (r' : Rn) (e : Ending) (w' : World) : Prop := e = .returned (.int .i64 0) ∧ RgAt w' b r' ∧ Mod (fun x => x = b) w w'
set_option maxRecDepth 20000 in
set_option maxHeartbeats 2000000 in
theorem kturn_any (h : RgAt w b r) (i : Nat) (hi : i < r.L.length) (p : Pl) : Calls Tryz.prog 86 #[.pointer (some ⟨b, 0, none⟩), .int .i64 i, .bool p.used, .bool p.pinned, .bool p.marked] w fun e w' => KPost w b (r.put i p) e w' := by
  have hwr := kwrong_any h i hi
  have hi64 : i < 64 := by have := h.hi; omega
  have w1 := fun w => kwith_any w r.uF i hi64 p.used
  have w2 := fun w => kwith_any w r.pF i hi64 p.pinned
  have w3 := fun w => kwith_any w r.mF i hi64 p.marked
  have hbk : w.drew.heap[b]? = some (.cells (rgC r) 145 (0, 0)) := h.blk
  have hend : (((w.drew.setCell ⟨b, 1, none⟩ (.int .u64 (sN (setB r.uF i p.used) : Nat))).setCell ⟨b, 2, none⟩ (.int .u64 (sN (setB r.pF i p.pinned) : Nat))).setCell ⟨b, 3, none⟩ (.int .u64 (sN (setB r.mF i p.marked) : Nat))).heap[b]? = some (.cells (rgC (r.put i p)) 145 (0, 0)) := by
    rw [heap_setCell_at (heap_setCell_at (heap_setCell_at hbk))]
    unfold rgC
    rw [put_uF hi, put_pF hi, put_mF hi, put_len]
    rfl
  have hm := ((((Mod.refl (fun x => x = b) w).drew).setCell ⟨b, 1, none⟩ (.int .u64 (sN (setB r.uF i p.used) : Nat)) (fun _ => rfl)).setCell ⟨b, 2, none⟩ (.int .u64 (sN (setB r.pF i p.pinned) : Nat)) (fun _ => rfl)).setCell ⟨b, 3, none⟩ (.int .u64 (sN (setB r.mF i p.marked) : Nat)) (fun _ => rfl)
  have HP : Hid (RgAt _ b (r.put i p)) := Lib.hid ⟨hend, by rw [put_len]; exact h.lo, by rw [put_len]; exact h.hi, by rw [put_len]; exact h.hand⟩
  have HM := Lib.hid hm
  have k1 : w.drew.cell? ⟨b, 1, none⟩ = some (.int .u64 (sN r.uF : Nat)) := cell_of hbk rfl
  have k2 : w.drew.cell? ⟨b, 2, none⟩ = some (.int .u64 (sN r.pF : Nat)) := cell_of hbk rfl
  have k3 : w.drew.cell? ⟨b, 3, none⟩ = some (.int .u64 (sN r.mF : Nat)) := cell_of hbk rfl
  have f1 : w.drew.frozen? ⟨b, 1, none⟩ = false := free_of hbk
  have hb2 := heap_setCell_at (o := 1) (v := .int .u64 (sN (setB r.uF i p.used) : Nat)) hbk
  have f2 : (w.drew.setCell ⟨b, 1, none⟩ (.int .u64 (sN (setB r.uF i p.used) : Nat))).frozen? ⟨b, 2, none⟩ = false := free_of hb2
  have c2 : (w.drew.setCell ⟨b, 1, none⟩ (.int .u64 (sN (setB r.uF i p.used) : Nat))).cell? ⟨b, 2, none⟩ = some (.int .u64 (sN r.pF : Nat)) := cell_of hb2 rfl
  have hb3 := heap_setCell_at (o := 2) (v := .int .u64 (sN (setB r.pF i p.pinned) : Nat)) hb2
  have f3 : ((w.drew.setCell ⟨b, 1, none⟩ (.int .u64 (sN (setB r.uF i p.used) : Nat))).setCell ⟨b, 2, none⟩ (.int .u64 (sN (setB r.pF i p.pinned) : Nat))).frozen? ⟨b, 3, none⟩ = false := free_of hb3
  have c3 : ((w.drew.setCell ⟨b, 1, none⟩ (.int .u64 (sN (setB r.uF i p.used) : Nat))).setCell ⟨b, 2, none⟩ (.int .u64 (sN (setB r.pF i p.pinned) : Nat))).cell? ⟨b, 3, none⟩ = some (.int .u64 (sN r.mF : Nat)) := cell_of hb3 rfl
  have hS := And.intro k1 (And.intro k2 k3)
  clear h hbk hend hm hb2 hb3 k1 k2 k3
  generalize sN (setB r.uF i p.used) = s1 at *
  generalize sN (setB r.pF i p.pinned) = s2 at *
  generalize sN (setB r.mF i p.marked) = s3 at *
  generalize sN r.uF = t1 at *
  generalize sN r.pF = t2 at *
  generalize sN r.mF = t3 at *
  obtain ⟨pu, pp, pm⟩ := p
  simp only at *
  go_enter Tryz.func86, Tryz.ntmps86
  go_upto_region 4 with (first
    | (go_at_call 125; refine hwr.mono ?_; rintro e wt ⟨rfl, hw⟩; obtain rfl := hw.symm; clear hw)
    | fail)
  refine wp_region_x (fun w' => w'.cell? ⟨b, 1, none⟩ = some (.int .u64 (t1 : Nat)) ∧ w'.cell? ⟨b, 2, none⟩ = some (.int .u64 (t2 : Nat)) ∧ w'.cell? ⟨b, 3, none⟩ = some (.int .u64 (t3 : Nat))) [(0, 1), (1, 1), (2, 1), (3, 1), (4, 1), (5, 1), (6, 0), (7, 1), (8, 1), (10, 1), (11, 1), (12, 1), (13, 0), (14, 1), (15, 1), (17, 1), (18, 1), (19, 1), (20, 0), (21, 1), (22, 1), (9, 2), (16, 2), (23, 2), (24, 1), (25, 1), (26, 3), (27, 1), (28, 1), (29, 3), (30, 1), (31, 1), (32, 3)] (by kernel_rfl) (by kernel_rfl) (by intro d v c a w h; cases d <;> exact h) ?_
  iterate 6 (refine x_take rfl (fun K hK => ?_); go_simp; refine hK _ ?_; clear hK K)
  refine x_read rfl hS (fun w' h => exec_load1 ⟨⟨_, Tryz.underlying143, rfl⟩⟩ rfl h.1) ?_
  iterate 5 (refine x_take rfl (fun K hK => ?_); go_simp; refine hK _ ?_; clear hK K)
  refine x_read rfl hS (fun w' h => exec_load1 ⟨⟨_, Tryz.underlying143, rfl⟩⟩ rfl h.2.1) ?_
  iterate 5 (refine x_take rfl (fun K hK => ?_); go_simp; refine hK _ ?_; clear hK K)
  refine x_read rfl hS (fun w' h => exec_load1 ⟨⟨_, Tryz.underlying143, rfl⟩⟩ rfl h.2.2) ?_
  iterate 2 (refine x_take rfl (fun K hK => ?_); go_simp; refine hK _ ?_; clear hK K)
  refine x_show' rfl (fun K hK => ?_)
  go_simp
  refine (w1 _).mono ?_
  rintro e wt ⟨rfl, hw⟩
  obtain rfl := hw.symm
  clear hw
  refine hK _ _ hS ?_
  clear hK K
  refine x_show' rfl (fun K hK => ?_)
  go_simp
  refine (w2 _).mono ?_
  rintro e wt ⟨rfl, hw⟩
  obtain rfl := hw.symm
  clear hw
  refine hK _ _ hS ?_
  clear hK K
  refine x_show' rfl (fun K hK => ?_)
  go_simp
  refine (w3 _).mono ?_
  rintro e wt ⟨rfl, hw⟩
  obtain rfl := hw.symm
  clear hw
  refine hK _ _ hS ?_
  clear hK K
  iterate 2 (refine x_take rfl (fun K hK => ?_); go_simp; refine hK _ ?_; clear hK K)
  refine x_skip rfl (exec_store1 (v := .int .u64 (s1 : Nat)) ⟨⟨_, Tryz.underlying143, rfl⟩⟩ (by kernel_rfl) rfl rfl rfl hS.1 f1) ?_
  iterate 2 (refine x_take rfl (fun K hK => ?_); go_simp; refine hK _ ?_; clear hK K)
  refine x_skip rfl (exec_store1 (v := .int .u64 (s2 : Nat)) ⟨⟨_, Tryz.underlying143, rfl⟩⟩ (by kernel_rfl) rfl rfl rfl c2 f2) ?_
  iterate 2 (refine x_take rfl (fun K hK => ?_); go_simp; refine hK _ ?_; clear hK K)
  refine x_skip rfl (exec_store1 (v := .int .u64 (s3 : Nat)) ⟨⟨_, Tryz.underlying143, rfl⟩⟩ (by kernel_rfl) rfl rfl rfl c3 f3) ?_
  refine x_nil ?_
  clear hS w1 w2 w3 f1 f2 f3 c2 c3 hwr
  go_wp2
  go_ret
  exact ⟨rfl, HP.out, HM.out⟩
theorem kuse_any (h : RgAt w b r) (i : Nat) (hi : i < r.L.length) : Calls Tryz.prog 102 #[.pointer (some ⟨b, 0, none⟩), .int .i64 i] w fun e w' => KPost w b (r.use i) e w' := by
  have ht := kturn_any h i hi ⟨true, false, true⟩
  clear h
  go_enter Tryz.func102, Tryz.ntmps102
  go_wp2_with fail
  refine ht.mono ?_
  rintro e w2 ⟨rfl, h1, h2⟩
  have H1 := Lib.hid h1
  have H2 := Lib.hid h2
  clear ht h1 h2
  go_wp2
  go_ret
  exact ⟨rfl, H1.out, H2.out⟩
theorem kdrop_any (h : RgAt w b r) (i : Nat) (hi : i < r.L.length) : Calls Tryz.prog 101 #[.pointer (some ⟨b, 0, none⟩), .int .i64 i] w fun e w' => KPost w b (r.drop i) e w' := by
  have ht := kturn_any h i hi Pl.no
  clear h
  go_enter Tryz.func101, Tryz.ntmps101
  go_wp2_with fail
  refine ht.mono ?_
  rintro e w2 ⟨rfl, h1, h2⟩
  have H1 := Lib.hid h1
  have H2 := Lib.hid h2
  clear ht h1 h2
  go_wp2
  go_ret
  exact ⟨rfl, H1.out, H2.out⟩
theorem klives_any (h : RgAt w b r) (i : Nat) (hi : i < r.L.length) : Calls Tryz.prog 85 #[.pointer (some ⟨b, 0, none⟩), .int .i64 i] w fun e w' => e = .returned (.int .i64 (if (r.at_ i).used then 0 else 11)) ∧ w' = w := by
  have hwr := kwrong_any h i hi
  have hh := fun w => khas_any w r.uF i (by have := h.hi; omega)
  have c1 := h.c1
  clear h
  have hu : r.uF i = (r.at_ i).used := rfl
  rw [hu] at hh
  generalize sN r.uF = t at *
  clear hu
  generalize (r.at_ i).used = u at *
  cases u
  · go_enter Tryz.func85, Tryz.ntmps85
    go_wp2_with (first
      | (go_at_call 125; refine hwr.mono ?_; rintro e wt ⟨rfl, hw⟩; obtain rfl := hw.symm; clear hw)
      | (go_at_call 87; refine (hh _).mono ?_; rintro e wt ⟨rfl, hw⟩; obtain rfl := hw.symm; clear hw)
      | fail)
    go_ret
    exact ⟨rfl, rfl⟩
  · go_enter Tryz.func85, Tryz.ntmps85
    go_wp2_with (first
      | (go_at_call 125; refine hwr.mono ?_; rintro e wt ⟨rfl, hw⟩; obtain rfl := hw.symm; clear hw)
      | (go_at_call 87; refine (hh _).mono ?_; rintro e wt ⟨rfl, hw⟩; obtain rfl := hw.symm; clear hw)
      | fail)
    go_ret
    exact ⟨rfl, rfl⟩
/-- A used place is marked. -/
theorem ktouch_any (h : RgAt w b r) (i : Nat) (hi : i < r.L.length) (hu : (r.at_ i).used = true) : Calls Tryz.prog 46 #[.pointer (some ⟨b, 0, none⟩), .int .i64 i] w fun e w' => KPost w b (r.touch i) e w' := by
  have ht := kturn_any h i hi { r.at_ i with marked := true }
  have hl := klives_any h i hi
  have hh := fun w => khas_any w r.pF i (by have := h.hi; omega)
  have c2 := h.c2
  rw [hu, if_pos rfl] at hl
  unfold Rn.touch
  rw [if_pos hu]
  have hp : r.pF i = (r.at_ i).pinned := rfl
  rw [hp] at hh
  simp only [hu] at ht ⊢
  generalize sN r.pF = t at *
  generalize (r.at_ i).pinned = q at *
  clear h hp
  go_enter Tryz.func46, Tryz.ntmps46
  go_wp2_with (first
    | (go_at_call 85; refine hl.mono ?_; rintro e wt ⟨rfl, hw⟩; obtain rfl := hw.symm; clear hw)
    | (go_at_call 87; refine (hh _).mono ?_; rintro e wt ⟨rfl, hw⟩; obtain rfl := hw.symm; clear hw)
    | fail)
  refine ht.mono ?_
  rintro e w2 ⟨rfl, h1, h2⟩
  have H1 := Lib.hid h1
  have H2 := Lib.hid h2
  clear ht h1 h2
  go_wp2
  go_ret
  exact ⟨rfl, H1.out, H2.out⟩
/-- A used place is pinned. -/
theorem kpin_any (h : RgAt w b r) (i : Nat) (hi : i < r.L.length) (hu : (r.at_ i).used = true) : Calls Tryz.prog 103 #[.pointer (some ⟨b, 0, none⟩), .int .i64 i] w fun e w' => KPost w b (r.pin i) e w' := by
  have ht := kturn_any h i hi { r.at_ i with pinned := true }
  have hl := klives_any h i hi
  have hh := fun w => khas_any w r.mF i (by have := h.hi; omega)
  have c3 := h.c3
  rw [hu, if_pos rfl] at hl
  unfold Rn.pin
  rw [if_pos hu]
  have hp : r.mF i = (r.at_ i).marked := rfl
  rw [hp] at hh
  simp only [hu] at ht ⊢
  generalize sN r.mF = t at *
  generalize (r.at_ i).marked = q at *
  clear h hp
  go_enter Tryz.func103, Tryz.ntmps103
  go_wp2_with (first
    | (go_at_call 85; refine hl.mono ?_; rintro e wt ⟨rfl, hw⟩; obtain rfl := hw.symm; clear hw)
    | (go_at_call 87; refine (hh _).mono ?_; rintro e wt ⟨rfl, hw⟩; obtain rfl := hw.symm; clear hw)
    | fail)
  refine ht.mono ?_
  rintro e w2 ⟨rfl, h1, h2⟩
  have H1 := Lib.hid h1
  have H2 := Lib.hid h2
  clear ht h1 h2
  go_wp2
  go_ret
  exact ⟨rfl, H1.out, H2.out⟩
end
end Go.Proofs.YtldimgchpgoggaaGreat
