/- A ring of which some writes last: it says the first ones of the records. Plain. -/
import Derived.Test.YtmakpbjknklpiaaGreatMgRpl17
/- What keeps a log sound. -/
namespace Go.Proofs.YtmakpbjknklpiaaGreat
open Go.RowKit Go.Tn Go.Tn.Bt Go.Tn.Lp Go.Tn.Dk
theorem takeH_some : ∀ (ps : List Pt) (H : Nat → Option (List Nat)) (k : Nat) (b : List Nat), takeH H ps k = some b → (∃ q ∈ ps, q.1 = (k : Int) ∧ q.2 = b) ∨ H k = some b
  | [], H, k, b, h => .inr h
  | q :: ps, H, k, b, h => by
    rcases takeH_some ps _ k b h with ⟨q', h1, h2⟩ | h
    · exact .inl ⟨q', List.mem_cons_of_mem _ h1, h2⟩
    · simp only at h
      split at h
      · rename_i hk
        exact .inl ⟨q, List.mem_cons_self, hk.symm, by simpa using h⟩
      · exact .inr h
theorem takeH_ok {H : Nat → Option (List Nat)} {ps : List Pt} {homes : Nat} (h : ∀ k b, H k = some b → k < homes ∧ secB b) (ht : transB ps homes = true) (hb : ∀ q ∈ ps, ∀ x ∈ q.2, x < 256) : ∀ k b, takeH H ps k = some b → k < homes ∧ secB b := by
  intro k b hk
  rcases takeH_some ps H k b hk with ⟨q, h1, h2, rfl⟩ | hk
  · obtain ⟨-, -, h3, -⟩ := (transB_iff ps homes).1 ht
    obtain ⟨h4, h5, h6⟩ := h3 q h1
    exact ⟨by omega, h6, hb q h1⟩
  · exact h k b hk
theorem decB_byte {B : List Nat} {homes : Nat} {ps : List Pt} (h : decB B homes = some ps) : ∀ q ∈ ps, ∀ x ∈ q.2, x < 256 := by
  unfold decB at h
  split at h
  · cases h
  · rename_i hd
    split at h
    · cases h
      exact fun q hq => ((decGo_le B _ (getA_le _ _ _ (Nat.zero_le _)) _ _ _ _ hd).2.2 q hq).2.2.2
    · cases h
/-- Sound but for the counts' limit. -/
structure _root_.Go.Tn.Dk.Lg.fit (l : Lg) (d : Dsk) : Prop where
  n2 : 2 ≤ l.n
  nd : l.n + 3 ≤ d.L.length
  epoch : l.epoch ≤ 16777215
  gen : l.gen ≤ 1099511627775
  tail : l.tail ≤ l.next
  next : l.next ≤ l.tail + l.n
  err : l.err < 256
  H : ∀ k b, l.H k = some b → k < l.homes d ∧ secB b
theorem _root_.Go.Tn.Dk.Lg.fit.ok {l : Lg} {d : Dsk} (h : l.fit d) (hs : l.next < 1099511627776) : l.ok d := ⟨h.n2, h.nd, h.epoch, h.gen, h.tail, h.next, hs, h.err, h.H⟩
theorem _root_.Go.Tn.Dk.Lg.ok.fit {l : Lg} {d : Dsk} (h : l.ok d) : l.fit d := ⟨h.n2, h.nd, h.epoch, h.gen, h.tail, h.next, h.err, h.H⟩
theorem replay_fit (d : Dsk) : ∀ (fuel : Nat) (l : Lg) (floor : Nat), l.fit d → (replayGo d fuel l floor).fit d
  | 0, l, floor, h => h
  | fuel + 1, l, floor, h => by
    simp only [replayGo]
    cases hj : joinB (l.recordB d floor) with
    | none => exact h
    | some b =>
      simp only
      cases hdc : decB b (l.homes d) with
      | none => exact h
      | some ps =>
        simp only
        have hlen := recordB_len l d floor
        have hf : l.free = l.n - (l.next - l.tail) := rfl
        have h1 := h.tail
        have h2 := h.next
        exact replay_fit d fuel _ _ ⟨h.n2, h.nd, h.epoch, h.gen, by simp only; omega, by simp only; omega, h.err, takeH_ok h.H (decB_trans hdc) (decB_byte hdc)⟩
theorem hdB_gen {bs : List Nat} {i : Nat} {h : Hd} (hb : ∀ x ∈ bs, x < 256) (hh : hdB bs i = some h) : h.gen < 2 ^ 40 := by
  unfold hdB at hh
  split at hh
  · rename_i p hp
    have := (unsealB_ok hb hp).1
    unfold headP at hh
    split at hh
    · cases hh
      simp only
      have := this.2.1
      omega
    · cases hh
  · cases hh
theorem head_gen {d : Dsk} (hd : d.ok) {a : Nat} (ha : a + 1 < d.L.length) {h : Hd} (hh : d.head a = some h) : h.gen < 2 ^ 40 := by
  have key : d.head a = hdB (d.get a) 0 ∨ d.head a = hdB (d.get (a + 1)) 1 := by
    unfold Dsk.head newer
    split
    · exact .inl rfl
    · rename_i y hy
      split
      · exact .inr hy.symm
      · rename_i x hx
        split
        · exact .inr hy.symm
        · exact .inl hx.symm
  rcases key with e | e
  · rw [e] at hh; exact hdB_gen (hd.get (by omega)).2 hh
  · rw [e] at hh; exact hdB_gen (hd.get ha).2 hh
theorem log0_fit {d : Dsk} {n ep gen tail : Nat} (hn2 : 2 ≤ n) (hnd : n + 3 ≤ d.L.length) (he : ep ≤ 16777215) (hg : gen ≤ 1099511627775) : (log0 n ep gen tail).fit d :=
  ⟨hn2, hnd, he, hg, Nat.le_refl _, Nat.le_add_right _ _, by simp [log0], fun k b h => by cases h⟩
theorem open_fit {d : Dsk} (hd : d.ok) {n : Nat} (hn2 : 2 ≤ n) (hnd : n + 3 ≤ d.L.length) {l : Lg} (h : openB d n = some l) : l.fit d := by
  unfold openB at h
  split at h
  · cases h
  · cases h
    refine replay_fit d _ _ _ (log0_fit hn2 hnd (by omega) ?_)
    cases hh : d.head 0 with
    | none => decide
    | some x =>
      have := head_gen hd (by omega) hh
      simp only [Option.getD_some]
      omega
theorem replay_n (d : Dsk) : ∀ (fuel : Nat) (l : Lg) (floor : Nat), (replayGo d fuel l floor).n = l.n
  | 0, l, floor => rfl
  | fuel + 1, l, floor => by
    simp only [replayGo]
    cases hj : joinB (l.recordB d floor) with
    | none => rfl
    | some b =>
      simp only
      cases hdc : decB b (l.homes d) with
      | none => rfl
      | some ps => exact replay_n d fuel _ _
theorem open_n {d : Dsk} {n : Nat} {l : Lg} (h : openB d n = some l) : l.n = n := by
  unfold openB at h
  split at h
  · cases h
  · cases h
    exact replay_n d _ _ _
theorem write_L (d : Dsk) (i : Nat) (b : List Nat) : (d.write i b).L = d.L := by
  unfold Dsk.write
  split
  · exact step_L d
  · exact step_L d
theorem putPcs_L (n : Nat) : ∀ (ps : List Pc) (d : Dsk), (putPcs n ps d).1.L.length = d.L.length
  | [], d => rfl
  | q :: r, d => by
    simp only [putPcs]
    split
    · rw [write_L]
    · rw [putPcs_L n r, write_L]
theorem dead_lt (d : Dsk) : d.dead < 256 := by unfold Dsk.dead; split <;> omega
theorem _root_.Go.Tn.Dk.Lg.fit.disk {l : Lg} {d d' : Dsk} (h : l.fit d) (hL : d'.L.length = d.L.length) : l.fit d' :=
  ⟨h.n2, by rw [hL]; exact h.nd, h.epoch, h.gen, h.tail, h.next, h.err, fun k b hk => by
    have := h.H k b hk
    unfold Lg.homes at this ⊢
    rwa [hL]⟩
theorem flush_L (d : Dsk) : d.flush.L.length = d.L.length := by
  unfold Dsk.flush
  split
  · rw [step_L]
  · simp only
    exact laid_len _ _
theorem sync_fit {l : Lg} {d : Dsk} (h : l.fit d) : (l.sync d).1.fit (l.sync d).2 := by
  unfold Lg.sync
  split
  · exact h
  · have h2 : l.fit d.flush := h.disk (flush_L d)
    exact ⟨h2.n2, h2.nd, h2.epoch, h2.gen, h2.tail, h2.next, dead_lt d, h2.H⟩
end Go.Proofs.YtmakpbjknklpiaaGreat

/- Records, pieces, sectors: there and back. Plain. -/
namespace Go.Tn.Bt
open Go.Tn
theorem getA_at {B : List Nat} {A R : List Bool} {x n : Nat} (h : unpack B = A ++ (bitsN x n ++ R)) : getA B A.length 0 n = (x % 2 ^ n, A.length + n, 0) := by
  have hl := congrArg List.length h
  rw [unpack_len, List.length_append, List.length_append, bitsN_len] at hl
  unfold getA
  rw [if_neg (by decide), if_pos (by omega), h, List.drop_left, List.take_append_of_le_length (by rw [bitsN_len]; exact Nat.le_refl _), List.take_of_length_le (by rw [bitsN_len]; exact Nat.le_refl _), natOf_bitsN]
end Go.Tn.Bt
namespace Go.Tn.Dk
open Go.Tn Go.Tn.Bt Go.Tn.Lp
theorem get8s_at {B : List Nat} {A R : List Bool} {bs : List Nat} (h : unpack B = A ++ (bs.flatMap (fun c => bitsN c 8) ++ R)) (hb : ∀ x ∈ bs, x < 256) :
    ∀ k, k ≤ bs.length → get8s B A.length 0 k = (bs.take k, A.length + 8 * k, 0)
  | 0, _ => by simp [get8s]
  | k + 1, hk => by
    have ih := get8s_at h hb k (by omega)
    have hkl : k < bs.length := by omega
    have e1 : bs = bs.take k ++ bs[k] :: bs.drop (k + 1) := by rw [← List.drop_eq_getElem_cons hkl, List.take_append_drop]
    have hu : unpack B = (A ++ (bs.take k).flatMap (fun c => bitsN c 8)) ++ (bitsN bs[k] 8 ++ ((bs.drop (k + 1)).flatMap (fun c => bitsN c 8) ++ R)) := by
      have e2 : bs.flatMap (fun c => bitsN c 8) = (bs.take k).flatMap (fun c => bitsN c 8) ++ (bitsN bs[k] 8 ++ (bs.drop (k + 1)).flatMap (fun c => bitsN c 8)) := by
        conv => lhs; rw [e1]
        rw [List.flatMap_append, List.flatMap_cons]
      rw [h, e2]
      simp only [List.append_assoc]
    have hg := getA_at hu
    have hl : (A ++ (bs.take k).flatMap (fun c => bitsN c 8)).length = A.length + 8 * k := by
      rw [List.length_append, dat_len, List.length_take, Nat.min_eq_left (by omega)]
    rw [hl] at hg
    have hx : bs[k] < 256 := hb _ (List.getElem_mem hkl)
    simp only [get8s, ih, hg]
    rw [show (2 : Nat) ^ 8 = 256 from rfl, Nat.mod_eq_of_lt hx, List.take_succ_eq_append_getElem hkl]
    rw [show A.length + 8 * k + 8 = A.length + 8 * (k + 1) by omega]
theorem getPut_at {B : List Nat} {A R : List Bool} {p : Pt} (h : unpack B = A ++ (putBits p ++ R)) (h0 : 0 ≤ p.1) (h1 : p.1 < 4096) (hl : p.2.length = 128) (hb : ∀ x ∈ p.2, x < 256) :
    getPut B A.length 0 = (p, A.length + 1036, 0) := by
  have h12 : unpack B = A ++ (bitsN p.1.toNat 12 ++ (p.2.flatMap (fun c => bitsN c 8) ++ R)) := by
    rw [h]
    unfold putBits
    simp [List.append_assoc]
  have hg := getA_at h12
  have h8 : unpack B = (A ++ bitsN p.1.toNat 12) ++ (p.2.flatMap (fun c => bitsN c 8) ++ R) := by rw [h12]; simp [List.append_assoc]
  have hs := get8s_at h8 hb 128 (by omega)
  rw [List.length_append, bitsN_len, List.take_of_length_le (by omega)] at hs
  unfold getPut
  simp only [hg, hs]
  rw [show (2 : Nat) ^ 12 = 4096 from rfl, Nat.mod_eq_of_lt (by omega)]
  obtain ⟨a, b⟩ := p
  simp only at h0 h1
  have : ((a.toNat : Nat) : Int) = a := by omega
  rw [this, show A.length + 12 + 8 * 128 = A.length + 1036 by omega]
theorem decGo_at {B : List Nat} {A R : List Bool} {ps : List Pt} (h : unpack B = A ++ (ps.flatMap putBits ++ R)) (hp : ∀ p ∈ ps, 0 ≤ p.1 ∧ p.1 < 4096 ∧ p.2.length = 128 ∧ ∀ x ∈ p.2, x < 256) :
    ∀ k, k ≤ ps.length → decGo B A.length 0 k = some (ps.take k, A.length + 1036 * k, 0)
  | 0, _ => by simp [decGo]
  | k + 1, hk => by
    have ih := decGo_at h hp k (by omega)
    have hkl : k < ps.length := by omega
    have e1 : ps = ps.take k ++ ps[k] :: ps.drop (k + 1) := by rw [← List.drop_eq_getElem_cons hkl, List.take_append_drop]
    have hu : unpack B = (A ++ (ps.take k).flatMap putBits) ++ (putBits ps[k] ++ ((ps.drop (k + 1)).flatMap putBits ++ R)) := by
      have e2 : ps.flatMap putBits = (ps.take k).flatMap putBits ++ (putBits ps[k] ++ (ps.drop (k + 1)).flatMap putBits) := by
        conv => lhs; rw [e1]
        rw [List.flatMap_append, List.flatMap_cons]
      rw [h, e2]
      simp only [List.append_assoc]
    have hx := hp _ (List.getElem_mem hkl)
    have hg := getPut_at hu hx.1 hx.2.1 hx.2.2.1 hx.2.2.2
    have hl : (A ++ (ps.take k).flatMap putBits).length = A.length + 1036 * k := by
      rw [List.length_append, puts_len _ fun p hq => (hp p (List.mem_of_mem_take hq)).2.2.1, List.length_take, Nat.min_eq_left (by omega)]
    rw [hl] at hg
    simp only [decGo, ih, hg]
    rw [if_neg (by decide), List.take_succ_eq_append_getElem hkl, show A.length + 1036 * k + 1036 = A.length + 1036 * (k + 1) by omega]
theorem pack_last (l : List Bool) : (pack l).getLastD 0 % 2 ^ (8 * (pack l).length - l.length) = 0 := by
  have hr : 8 * (pack l).length - l.length < 8 := by rw [pack_len]; omega
  have hu := unpack_pack l
  generalize hB : pack l = B at *
  rcases List.eq_nil_or_concat B with rfl | ⟨i, c, rfl⟩
  · simp
  · rw [List.concat_eq_append] at *
    have hlen := congrArg List.length hB
    rw [pack_len, List.length_append, List.length_singleton] at hlen
    have hlast : (i ++ [c]).getLastD 0 = c := by simp
    rw [hlast]
    rw [List.length_append, List.length_singleton] at hr ⊢
    have hk : 8 * (i.length + 1) - l.length = 8 * ((l.length + 7) / 8) - l.length := by omega
    rw [hk] at hr ⊢
    generalize 8 * ((l.length + 7) / 8) - l.length = r at *
    rw [unpack_append] at hu
    have h8 : unpack [c] = bitsN c (8 - r + r) := by
      rw [show 8 - r + r = 8 by omega]
      simp [unpack]
    rw [h8, bitsN_add, ← List.append_assoc] at hu
    have hs := (List.append_inj' hu (by rw [bitsN_len, List.length_replicate])).2
    have := congrArg natOf hs
    rwa [natOf_bitsN, natOf_zeros] at this
end Go.Tn.Dk
namespace Go.Proofs.YtmakpbjknklpiaaGreat
open Go.RowKit Go.Tn Go.Tn.Bt Go.Tn.Lp Go.Tn.Dk
theorem decB_recB {ps : List Pt} {homes : Nat} (h : transB ps homes = true) (hh : homes ≤ 4096) (hb : ∀ p ∈ ps, ∀ x ∈ p.2, x < 256) : decB (recB ps) homes = some ps := by
  obtain ⟨h1, h2, h3, h4⟩ := (transB_iff ps homes).1 h
  have hp : ∀ p ∈ ps, 0 ≤ p.1 ∧ p.1 < 4096 ∧ p.2.length = 128 ∧ ∀ x ∈ p.2, x < 256 := fun p hp => by
    obtain ⟨a, b, c⟩ := h3 p hp
    exact ⟨a, by omega, c, hb p hp⟩
  obtain ⟨l, hl⟩ : ∃ l, bitsN ps.length 8 ++ ps.flatMap putBits = l := ⟨_, rfl⟩
  have hrec : recB ps = pack l := by rw [← hl]; rfl
  have hu := unpack_pack l
  obtain ⟨R, hR⟩ : ∃ R, List.replicate (8 * ((l.length + 7) / 8) - l.length) false = R := ⟨_, rfl⟩
  rw [hR] at hu
  have hlen : l.length = 8 + 1036 * ps.length := by rw [← hl, List.length_append, bitsN_len, puts_len ps fun p hq => (hp p hq).2.2.1]
  have hu1 : unpack (pack l) = [] ++ (bitsN ps.length 8 ++ (ps.flatMap putBits ++ R)) := by rw [hu, ← hl]; simp [List.append_assoc]
  have hu2 : unpack (pack l) = bitsN ps.length 8 ++ (ps.flatMap putBits ++ R) := by rw [hu1, List.nil_append]
  have hg := getA_at hu1
  have hd := decGo_at hu2 hp ps.length (Nat.le_refl _)
  rw [List.length_nil, Nat.zero_add, show (2 : Nat) ^ 8 = 256 from rfl, Nat.mod_eq_of_lt (by omega)] at hg
  rw [bitsN_len, List.take_length] at hd
  have hE : endR (pack l) (8 + 1036 * ps.length) 0 = 0 := by
    have hpl := pack_last l
    rw [hlen] at hpl
    unfold endR
    rw [if_neg (by decide)]
    rw [if_neg (by rw [pack_len, hlen]; omega)]
    rw [if_neg (fun hc => hc.2 hpl)]
  rw [hrec]
  unfold decB
  simp only [hg, hd]
  rw [if_pos ⟨hE, h⟩]
end Go.Proofs.YtmakpbjknklpiaaGreat
namespace Go.Tn.Lp
open Go.Tn
theorem numOf_append (a : List Nat) : ∀ b : List Nat, numOf (a ++ b) = numOf a * 256 ^ b.length + numOf b := by
  intro b
  generalize hn : b.length = n
  induction n generalizing b with
  | zero =>
    have : b = [] := List.eq_nil_of_length_eq_zero hn
    subst this
    simp [numOf]
  | succ n ih =>
    obtain ⟨i, c, rfl⟩ : ∃ i c, b = i ++ [c] := ⟨b.dropLast, b.getLast (fun e => by rw [e] at hn; simp at hn), (List.dropLast_concat_getLast _).symm⟩
    rw [← List.append_assoc, numOf_snoc, numOf_snoc, ih i (by simpa using hn), Nat.pow_succ, Nat.add_mul, Nat.mul_assoc, Nat.add_assoc]
theorem numOf_bytesN (x : Nat) : ∀ n, numOf (bytesN x n) = x % 256 ^ n
  | 0 => by simp [bytesN, numOf, Nat.mod_one]
  | n + 1 => by
    have h := numOf_append [x / 256 ^ n % 256] (bytesN x n)
    rw [show bytesN x (n + 1) = [x / 256 ^ n % 256] ++ bytesN x n from rfl, h, bytesN_len, numOf_bytesN x n]
    rw [show numOf [x / 256 ^ n % 256] = x / 256 ^ n % 256 by simp [numOf]]
    rw [Nat.mod_pow_succ, Nat.mul_comm (x / 256 ^ n % 256), Nat.add_comm]
theorem take_writeAt {bs L : List Nat} {o n : Nat} (h : o + bs.length ≤ L.length) (hn : n ≤ o) : (writeAt L o bs).take n = L.take n := by
  rw [writeAt_eq bs L o h, List.append_assoc, List.take_append_of_le_length (by rw [List.length_take]; omega), List.take_take, Nat.min_eq_left hn]
theorem get_writeAt_lt {bs L : List Nat} {o i : Nat} (h : o + bs.length ≤ L.length) (hi : i < o) : (writeAt L o bs)[i]? = L[i]? := by
  have := congrArg (fun l => l[i]?) (take_writeAt (n := o) h (Nat.le_refl _))
  simp only [List.getElem?_take, hi, if_true] at this
  exact this
def stampN (p : Pc) : Nat := p.ep * 1099511627776 + p.ct
theorem seal_front (p : Pc) (h : p.da.length ≤ 106) : (sealB p).take 8 = bytesN (stampN p) 8 := by
  have h3 := seal3_len p
  unfold sealB
  rw [take_writeAt (by simp [writeAt_len, bytesN_len, h3]) (by decide), take_writeAt (by simp [bytesN_len, h3]) (by decide)]
  unfold seal3
  rw [take_writeAt (by simp [writeAt_len]; omega) (by decide), List.take_set_of_le (by decide), List.take_set_of_le (by decide), writeAt_eq _ _ _ (by simp [bytesN_len])]
  simp only [List.take_zero, List.nil_append]
  rw [List.take_append_of_le_length (by simp [bytesN_len]), List.take_of_length_le (by simp [bytesN_len])]
  rfl
theorem seal_back (p : Pc) : (sealB p).drop 120 = bytesN (stampN p) 8 := by
  have h3 := seal3_len p
  unfold sealB
  rw [writeAt_eq _ _ 120 (by simp [writeAt_len, bytesN_len, h3])]
  have hl : (List.take 120 (writeAt (seal3 p) 116 (bytesN (fsum (List.take 116 (seal3 p))) 4)) ++ bytesN (p.ep * 1099511627776 + p.ct) 8).length = 128 := by simp [writeAt_len, bytesN_len, h3]
  rw [List.drop_append_of_le_length (by omega), List.drop_append_of_le_length (by simp [writeAt_len, h3])]
  have hz1 : List.drop 120 (List.take 120 (writeAt (seal3 p) 116 (bytesN (fsum (List.take 116 (seal3 p))) 4))) = [] := List.drop_eq_nil_of_le (by simp [writeAt_len, h3])
  have hz2 : List.drop (120 + (bytesN (p.ep * 1099511627776 + p.ct) 8).length) (writeAt (seal3 p) 116 (bytesN (fsum (List.take 116 (seal3 p))) 4)) = [] := List.drop_eq_nil_of_le (by simp [writeAt_len, bytesN_len, h3])
  rw [hz1, hz2, List.nil_append, List.append_nil]
  rfl
theorem seal_at8 (p : Pc) (h : p.da.length ≤ 106) : (sealB p)[8]? = some (flagsN p.fi p.la) ∧ (sealB p)[9]? = some p.da.length := by
  have h3 := seal3_len p
  have key : ∀ i, i < 10 → (sealB p)[i]? = (((writeAt (List.replicate 128 0) 0 (bytesN (p.ep * 1099511627776 + p.ct) 8)).set 8 (flagsN p.fi p.la)).set 9 p.da.length)[i]? := fun i hi => by
    unfold sealB
    rw [get_writeAt_lt (by simp [writeAt_len, bytesN_len, h3]) (by omega), get_writeAt_lt (by simp [bytesN_len, h3]) (by omega)]
    unfold seal3
    rw [get_writeAt_lt (by simp [writeAt_len]; omega) hi]
  refine ⟨?_, ?_⟩
  · rw [key 8 (by decide), List.getElem?_set_ne (by decide), List.getElem?_set_self (by simp [writeAt_len])]
  · rw [key 9 (by decide), List.getElem?_set_self (by simp [writeAt_len])]
theorem seal_data (p : Pc) (h : p.da.length ≤ 106) : ((sealB p).drop 10).take p.da.length = p.da := by
  have h3 := seal3_len p
  have h1 : (sealB p).take 116 = (seal3 p).take 116 := by
    unfold sealB
    rw [take_writeAt (by simp [writeAt_len, bytesN_len, h3]) (by decide), take_writeAt (by simp [bytesN_len, h3]) (by decide)]
  have h2 : (sealB p).take (10 + p.da.length) = (seal3 p).take (10 + p.da.length) := by
    have := congrArg (List.take (10 + p.da.length)) h1
    rwa [List.take_take, List.take_take, Nat.min_eq_left (by omega)] at this
  rw [List.take_drop, Nat.add_comm, Nat.add_comm p.da.length 10, h2]
  unfold seal3
  rw [writeAt_eq _ _ 10 (by simp [writeAt_len]; omega)]
  rw [List.take_append_of_le_length (by simp [writeAt_len]), List.take_of_length_le (by simp [writeAt_len])]
  rw [List.drop_append_of_le_length (by simp [writeAt_len]), List.drop_eq_nil_of_le (by simp [writeAt_len]), List.nil_append]
theorem unseal_seal {p : Pc} (h : p.ok) : unsealB (sealB p) = some p := by
  obtain ⟨h1, h2, h3⟩ := h
  obtain ⟨h8, h9⟩ := seal_at8 p h3
  have hf := seal_front p h3
  have hP : pieceOf (sealB p) = p := by
    unfold pieceOf
    rw [hf, numOf_bytesN]
    rw [List.getD_eq_getElem?_getD, h8, List.getD_eq_getElem?_getD, h9]
    simp only [Option.getD_some]
    rw [seal_data p h3]
    have hs : stampN p % 256 ^ 8 = stampN p := Nat.mod_eq_of_lt (by unfold stampN; omega)
    rw [hs]
    have e1 : stampN p / 1099511627776 = p.ep := by unfold stampN; omega
    have e2 : stampN p % 1099511627776 = p.ct := by unfold stampN; omega
    rw [e1, e2]
    obtain ⟨ep, ct, fi, la, da⟩ := p
    cases fi <;> cases la <;> simp [flagsN]
  unfold unsealB
  rw [if_pos ⟨sealB_len p, by rw [List.getD_eq_getElem?_getD, h9]; exact h3, by rw [hP]⟩, hP]
/-- What unseals is a piece's sector. -/
theorem seal_unseal {b : List Nat} {p : Pc} (h : unsealB b = some p) : sealB p = b := by
  unfold unsealB at h
  split at h
  · rename_i hc
    cases h
    exact hc.2.2
  · cases h
theorem recOf_cutL (ep ct : Nat) (bs : List Nat) : (cutL ep ct bs).flatMap (·.da) = bs := by
  have key : ∀ n, ((List.range n).map (pieceAt ep ct bs)).flatMap (·.da) = bs.take (106 * n) := by
    intro n
    induction n with
    | zero => simp
    | succ n ih =>
      rw [List.range_succ, List.map_append, List.flatMap_append, ih]
      simp only [List.map_cons, List.map_nil, List.flatMap_cons, List.flatMap_nil, List.append_nil, pieceAt]
      rw [show 106 * (n + 1) = 106 * n + 106 by omega, List.take_add]
  unfold cutL
  rw [key, List.take_of_length_le]
  unfold cutN
  omega
end Go.Tn.Lp
namespace Go.Proofs.YtmakpbjknklpiaaGreat
open Go.RowKit Go.Tn Go.Tn.Bt Go.Tn.Lp Go.Tn.Dk
theorem ends_seal {p : Pc} (h : p.ok) : endsB (sealB p) = (p.ep, p.ep) := by
  unfold endsB
  rw [seal_front p h.2.2, seal_back p, numOf_bytesN]
  have hs : stampN p % 256 ^ 8 = stampN p := Nat.mod_eq_of_lt (by have := h.1; have := h.2.1; unfold stampN; omega)
  rw [hs]
  have e1 : stampN p / 1099511627776 = p.ep := by have := h.2.1; unfold stampN; omega
  rw [e1]
theorem join_cut {ep ct : Nat} {bs : List Nat} {ps : List Pc} (h : cutB ep ct bs = .ok ps) : joinB ps = some bs := by
  have hps : ps = cutL ep ct bs := by
    unfold cutB at h
    split at h
    · cases h
    · split at h
      · cases h
      · cases h; rfl
  have hr : recOf ps = bs := by rw [hps]; exact recOf_cutL ep ct bs
  have hpos := cutN_pos bs
  obtain ⟨m, hm⟩ : ∃ m, cutN bs = m + 1 := ⟨cutN bs - 1, by omega⟩
  obtain ⟨r, hr2⟩ : ∃ r, ps = pieceAt ep ct bs 0 :: r := by
    rw [hps]
    unfold cutL
    rw [hm, List.range_succ_eq_map]
    exact ⟨_, rfl⟩
  have e : joinB ps = match cutB (pieceAt ep ct bs 0).ep (pieceAt ep ct bs 0).ct (recOf ps) with
    | .ok want => if want = ps then some (recOf ps) else none
    | .error _ => none := by
    conv => lhs; rw [hr2]
    unfold joinB
    simp only
    rw [← hr2]
    rfl
  rw [e, hr]
  have e2 : cutB (pieceAt ep ct bs 0).ep (pieceAt ep ct bs 0).ct bs = .ok ps := by
    simp only [pieceAt, Nat.add_zero]
    exact h
  rw [e2]
  simp
end Go.Proofs.YtmakpbjknklpiaaGreat

/- What a ring says: chains of records; a ring of which some writes last. Plain. -/
namespace Go.Proofs.YtmakpbjknklpiaaGreat
open Go.RowKit Go.Tn Go.Tn.Bt Go.Tn.Lp Go.Tn.Dk
/-- A record: its epoch, its puts. -/
structure Rc where
  ep : Nat
  ps : List Pt
def Rc.n (r : Rc) : Nat := cutN (recB r.ps)
def Rc.pcs (r : Rc) (ct : Nat) : List Pc := cutL r.ep ct (recB r.ps)
/-- Such a record may be written at a count. -/
structure Rc.good (r : Rc) (homes ct : Nat) : Prop where
  tr : transB r.ps homes = true
  by8 : ∀ p ∈ r.ps, ∀ x ∈ p.2, x < 256
  cut : cutB r.ep ct (recB r.ps) = .ok (r.pcs ct)
theorem Rc.len (r : Rc) (ct : Nat) : (r.pcs ct).length = r.n := cutL_len _ _ _
theorem Rc.pos (r : Rc) : 1 ≤ r.n := cutN_pos _
theorem Rc.get (r : Rc) (ct : Nat) {i : Nat} (hi : i < r.n) : (r.pcs ct)[i]? = some (pieceAt r.ep ct (recB r.ps) i) := by
  unfold Rc.pcs cutL
  rw [List.getElem?_map, List.getElem?_range (show i < cutN (recB r.ps) from hi)]
  rfl
def endCt (ct : Nat) (rs : List Rc) : Nat := rs.foldl (fun c r => c + r.n) ct
def lastF (f : Nat) (rs : List Rc) : Nat := rs.foldl (fun _ r => r.ep) f
def applyH (H : Nat → Option (List Nat)) (rs : List Rc) : Nat → Option (List Nat) := rs.foldl (fun H r => takeH H r.ps) H
theorem endCt_le : ∀ (rs : List Rc) (ct : Nat), ct + rs.length ≤ endCt ct rs
  | [], ct => Nat.le_refl _
  | r :: rs, ct => by
    have := endCt_le rs (ct + r.n)
    have := r.pos
    show _ ≤ endCt (ct + r.n) rs
    simp only [List.length_cons]
    omega
theorem endCt_append (ct : Nat) (a b : List Rc) : endCt ct (a ++ b) = endCt (endCt ct a) b := List.foldl_append
theorem lastF_append (f : Nat) (a b : List Rc) : lastF f (a ++ b) = lastF (lastF f a) b := List.foldl_append
theorem applyH_append (H : Nat → Option (List Nat)) (a b : List Rc) : applyH H (a ++ b) = applyH (applyH H a) b := List.foldl_append
/-- The ring says records one behind the other. -/
def Chain (d : Dsk) (n homes : Nat) : Nat → Nat → List Rc → Prop
  | _, _, [] => True
  | ct, f, r :: rs => f ≤ r.ep ∧ r.good homes ct ∧ (∀ q ∈ r.pcs ct, d.get (2 + q.ct % n) = sealB q) ∧ Chain d n homes (ct + r.n) r.ep rs
theorem Rc.good.ok {r : Rc} {homes ct : Nat} (h : r.good homes ct) : ∀ q ∈ r.pcs ct, q.ok := by
  have hc := h.cut
  unfold cutB at hc
  split at hc
  · cases hc
  · rename_i h1
    exact cutL_ok (by omega) (by omega) (by omega)
theorem Rc.good.ct {r : Rc} {homes ct : Nat} (h : r.good homes ct) : ct + r.n ≤ 1099511627776 := by
  have hc := h.cut
  have := r.pos
  unfold cutB at hc
  split at hc
  · cases hc
  · unfold Rc.n at *
    omega
theorem pieceB_seal {d : Dsk} {n : Nat} {q : Pc} (hq : q.ok) (h : d.get (2 + q.ct % n) = sealB q) : pieceB d n q.ct = some q := by
  unfold pieceB
  rw [h, unseal_seal hq]
  simp
/-- A record that lies there whole is read. -/
theorem recGo_rec {d : Dsk} {n homes ct f : Nat} {r : Rc} (hg : r.good homes ct) (hf : f ≤ r.ep) (hS : ∀ q ∈ r.pcs ct, d.get (2 + q.ct % n) = sealB q) :
    ∀ (m k : Nat), k < r.n → r.n ≤ k + m → recGo d n ct f m ((r.pcs ct).take k) = r.pcs ct
  | 0, k, h1, h2 => by omega
  | m + 1, k, h1, h2 => by
    have hq := r.get ct h1
    have hmem := List.mem_of_getElem? hq
    have hp := pieceB_seal (n := n) (hg.ok _ hmem) (hS _ hmem)
    have hlen : ((r.pcs ct).take k).length = k := by rw [List.length_take, r.len]; omega
    have hpc : pieceB d n (ct + ((r.pcs ct).take k).length) = some (pieceAt r.ep ct (recB r.ps) k) := by rw [hlen]; exact hp
    have hsn : (r.pcs ct).take (k + 1) = (r.pcs ct).take k ++ [pieceAt r.ep ct (recB r.ps) k] := by rw [List.take_add_one, hq]; rfl
    have hstep : (if (pieceAt r.ep ct (recB r.ps) k).la = true then (r.pcs ct).take k ++ [pieceAt r.ep ct (recB r.ps) k] else recGo d n ct f m ((r.pcs ct).take k ++ [pieceAt r.ep ct (recB r.ps) k])) = r.pcs ct := by
      rw [← hsn]
      by_cases hl : k + 1 = r.n
      · rw [if_pos (by simp only [pieceAt]; exact decide_eq_true hl), List.take_of_length_le (by rw [r.len]; omega)]
      · rw [if_neg (by simp only [pieceAt, decide_eq_true_eq]; exact hl)]
        exact recGo_rec hg hf hS m (k + 1) (by omega) (by omega)
    cases k with
    | zero =>
      rw [List.take_zero] at hpc hstep ⊢
      rw [List.nil_append] at hstep
      simp only [recGo, hpc]
      rw [if_pos ⟨by simp [pieceAt], hf⟩]
      exact hstep
    | succ k =>
      obtain ⟨p0, t, hpt, hp0⟩ : ∃ p0 t, (r.pcs ct).take (k + 1) = p0 :: t ∧ p0.ep = r.ep := by
        cases hc : r.pcs ct with
        | nil => have := r.len ct; rw [hc] at this; simp at this; omega
        | cons a b =>
          refine ⟨a, b.take k, rfl, ?_⟩
          have h0 := r.get ct (i := 0) (by omega)
          rw [hc] at h0
          cases h0
          rfl
      rw [hpt] at hpc hstep ⊢
      simp only [recGo, hpc]
      rw [if_pos ⟨by simp [pieceAt], by rw [hp0]; rfl⟩]
      exact hstep
/-- One step of what the ring says. -/
def stepB (d : Dsk) (l : Lg) (f : Nat) : Option (Lg × Nat) := match joinB (l.recordB d f) with
  | none => none
  | some b => match decB b (l.homes d) with
    | none => none
    | some ps => some ({ l with H := takeH l.H ps, next := l.next + (l.recordB d f).length }, ((l.recordB d f).head?.map (·.ep)).getD 0)
theorem replayGo_step (d : Dsk) (fuel : Nat) (l : Lg) (f : Nat) : replayGo d (fuel + 1) l f = match stepB d l f with
    | none => l
    | some (l', f') => replayGo d fuel l' f' := by
  simp only [replayGo, stepB]
  cases joinB (l.recordB d f) with
  | none => rfl
  | some b =>
    simp only
    cases decB b (l.homes d) with
    | none => rfl
    | some ps => rfl
theorem stepB_rec {d : Dsk} {l : Lg} {f : Nat} {r : Rc} (hg : r.good (l.homes d) l.next) (hh : l.homes d ≤ 4096) (hf : f ≤ r.ep) (hS : ∀ q ∈ r.pcs l.next, d.get (2 + q.ct % l.n) = sealB q) (hfr : r.n ≤ l.free) :
    stepB d l f = some ({ l with H := takeH l.H r.ps, next := l.next + r.n }, r.ep) := by
  have hrec : l.recordB d f = r.pcs l.next := by
    have := recGo_rec hg hf hS l.free 0 r.pos (by omega)
    rwa [List.take_zero] at this
  have hj := join_cut hg.cut
  have hd := decB_recB hg.tr hh hg.by8
  have hhd : (r.pcs l.next).head? = some (pieceAt r.ep l.next (recB r.ps) 0) := by
    have h0 := r.get l.next (i := 0) r.pos
    rw [← h0]
    cases r.pcs l.next <;> rfl
  unfold stepB
  rw [hrec, hj]
  simp only [hd, hhd]
  rw [r.len]
  rfl
/-- A log behind records. -/
def Lg.behind (l : Lg) (rs : List Rc) : Lg := { l with H := applyH l.H rs, next := endCt l.next rs }
theorem replay_chain {d : Dsk} : ∀ (rs : List Rc) (l : Lg) (f fuel : Nat), l.homes d ≤ 4096 → Chain d l.n (l.homes d) l.next f rs → l.tail ≤ l.next → endCt l.next rs ≤ l.tail + l.n →
    replayGo d (rs.length + fuel) l f = replayGo d fuel (Lg.behind l rs) (lastF f rs)
  | [], l, f, fuel, _, _, _, _ => by simp [Lg.behind, applyH, endCt, lastF]
  | r :: rs, l, f, fuel, hh, hc, ht, he => by
    obtain ⟨hf, hg, hS, hr⟩ := hc
    have he' : endCt (l.next + r.n) rs ≤ l.tail + l.n := he
    have hle := endCt_le rs (l.next + r.n)
    have hs := stepB_rec hg hh hf hS (by unfold Lg.free; omega)
    rw [List.length_cons, show rs.length + 1 + fuel = rs.length + fuel + 1 by omega, replayGo_step, hs]
    simp only
    exact replay_chain rs { l with H := takeH l.H r.ps, next := l.next + r.n } r.ep fuel hh hr (by simp only; omega) he'
/-- All that a ring says. -/
theorem replay_stop {d : Dsk} {rs : List Rc} {l : Lg} {f : Nat} (hh : l.homes d ≤ 4096) (hc : Chain d l.n (l.homes d) l.next f rs) (ht : l.tail ≤ l.next) (he : endCt l.next rs ≤ l.tail + l.n) (hst : stepB d (Lg.behind l rs) (lastF f rs) = none) :
    replayL l d f = Lg.behind l rs := by
  have hle := endCt_le rs l.next
  have hfr : l.free = l.n - (l.next - l.tail) := rfl
  unfold replayL
  obtain ⟨m, hm⟩ : ∃ m, l.free + 1 = rs.length + (m + 1) := ⟨l.free - rs.length, by omega⟩
  rw [hm, replay_chain rs l f (m + 1) hh hc ht he, replayGo_step, hst]
end Go.Proofs.YtmakpbjknklpiaaGreat

/- A ring of which some writes last: it says the first ones of the records. Plain. -/
namespace Go.Proofs.YtmakpbjknklpiaaGreat
open Go.RowKit Go.Tn Go.Tn.Bt Go.Tn.Lp Go.Tn.Dk
/-- The pieces of records one behind the other. -/
def allPcs : Nat → List Rc → List Pc
  | _, [] => []
  | ct, r :: rs => r.pcs ct ++ allPcs (ct + r.n) rs
/-- Records of an epoch that may be written one behind the other. -/
def Goods (homes E : Nat) : Nat → List Rc → Prop
  | _, [] => True
  | ct, r :: rs => r.ep = E ∧ r.good homes ct ∧ Goods homes E (ct + r.n) rs
theorem mem_pcs {r : Rc} {ct : Nat} {q : Pc} (h : q ∈ r.pcs ct) : ∃ i, i < r.n ∧ q = pieceAt r.ep ct (recB r.ps) i := by
  obtain ⟨i, hi⟩ := List.mem_iff_getElem?.1 h
  have hl := (List.getElem?_eq_some_iff.1 hi).1
  rw [r.len] at hl
  rw [r.get ct hl] at hi
  exact ⟨i, hl, (Option.some.inj hi).symm⟩
theorem allPcs_ct : ∀ (rs : List Rc) (ct : Nat), ∀ q ∈ allPcs ct rs, ct ≤ q.ct ∧ q.ct < endCt ct rs
  | [], ct, q, h => by cases h
  | r :: rs, ct, q, h => by
    have hle := endCt_le rs (ct + r.n)
    show ct ≤ q.ct ∧ q.ct < endCt (ct + r.n) rs
    rcases List.mem_append.1 h with h | h
    · obtain ⟨i, hi, rfl⟩ := mem_pcs h
      simp only [pieceAt]
      omega
    · have := allPcs_ct rs (ct + r.n) q h
      omega
theorem allPcs_ep {homes E : Nat} : ∀ (rs : List Rc) (ct : Nat), Goods homes E ct rs → ∀ q ∈ allPcs ct rs, q.ep = E
  | [], ct, _, q, h => by cases h
  | r :: rs, ct, hg, q, h => by
    rcases List.mem_append.1 h with h | h
    · obtain ⟨i, hi, rfl⟩ := mem_pcs h
      exact hg.1
    · exact allPcs_ep rs _ hg.2.2 q h
theorem pieceB_get {d : Dsk} {n c : Nat} {q : Pc} (h : pieceB d n c = some q) : d.get (2 + c % n) = sealB q ∧ q.ct = c := by
  unfold pieceB at h
  cases hu : unsealB (d.get (2 + c % n)) with
  | none => rw [hu] at h; cases h
  | some x =>
    rw [hu] at h
    simp only at h
    split at h
    · cases h
      exact ⟨(seal_unseal hu).symm, by assumption⟩
    · cases h
/-- Behind an elder piece: as the ring said before, or nothing. -/
theorem recGo_old {d d' : Dsk} {n next f E b : Nat} (hM : ∀ c, next ≤ c → c < b → pieceB d' n c = pieceB d n c ∨ pieceB d' n c = none ∨ ∃ q, pieceB d' n c = some q ∧ q.ep = E) (p0 : Pc) (hp : p0.ep < E) :
    ∀ (m : Nat) (r : List Pc), next + (p0 :: r).length + m ≤ b → recGo d' n next f m (p0 :: r) = [] ∨ recGo d' n next f m (p0 :: r) = recGo d n next f m (p0 :: r)
  | 0, r, _ => .inl rfl
  | m + 1, r, hb => by
    rcases hM (next + (p0 :: r).length) (by omega) (by omega) with h | h | ⟨q, h, hq⟩
    · simp only [recGo, h]
      cases hq : pieceB d n (next + (p0 :: r).length) with
      | none => exact .inl rfl
      | some q =>
        simp only
        split
        · split
          · exact .inr rfl
          · rw [show p0 :: r ++ [q] = p0 :: (r ++ [q]) from rfl]
            exact recGo_old hM p0 hp m (r ++ [q]) (by simp at hb ⊢; omega)
        · exact .inl rfl
    · left
      simp only [recGo, h]
    · left
      simp only [recGo, h]
      rw [if_neg (fun hc => by omega)]
/-- A record that is not there whole is none. -/
theorem recGo_miss {d d' : Dsk} {n ct f E : Nat} {r : Rc} (hE : r.ep = E) (hold : ∀ c q, ct ≤ c → c < ct + r.n → pieceB d n c = some q → q.ep < E)
    (hM : ∀ i, i < r.n → pieceB d' n (ct + i) = some (pieceAt r.ep ct (recB r.ps) i) ∨ pieceB d' n (ct + i) = pieceB d n (ct + i) ∨ pieceB d' n (ct + i) = none)
    (i0 : Nat) (hi0 : i0 < r.n) (hmiss : pieceB d' n (ct + i0) ≠ some (pieceAt r.ep ct (recB r.ps) i0)) :
    ∀ (m k : Nat), 0 < k → k ≤ i0 → recGo d' n ct f m ((r.pcs ct).take k) = []
  | 0, k, _, _ => by simp [recGo]
  | m + 1, k, hk0, hk => by
    have hlen : ((r.pcs ct).take k).length = k := by rw [List.length_take, r.len]; omega
    obtain ⟨p0, t, hpt, hp0⟩ : ∃ p0 t, (r.pcs ct).take k = p0 :: t ∧ p0.ep = r.ep := by
      cases hc : r.pcs ct with
      | nil => have := r.len ct; rw [hc] at this; simp at this; omega
      | cons a b =>
        obtain ⟨k', rfl⟩ : ∃ k', k = k' + 1 := ⟨k - 1, by omega⟩
        refine ⟨a, b.take k', rfl, ?_⟩
        have h0 := r.get ct (i := 0) (by omega)
        rw [hc] at h0
        cases h0
        rfl
    have hkn : k < r.n := by omega
    by_cases hnew : pieceB d' n (ct + k) = some (pieceAt r.ep ct (recB r.ps) k)
    · have hki : k ≠ i0 := fun e => hmiss (by rw [← e]; exact hnew)
      have hsn : (r.pcs ct).take (k + 1) = (r.pcs ct).take k ++ [pieceAt r.ep ct (recB r.ps) k] := by rw [List.take_add_one, r.get ct hkn]; rfl
      have hpc : pieceB d' n (ct + (p0 :: t).length) = some (pieceAt r.ep ct (recB r.ps) k) := by rw [← hpt, hlen]; exact hnew
      rw [hpt]
      simp only [recGo, hpc]
      rw [if_pos ⟨by simp only [pieceAt, decide_eq_false_iff_not]; omega, by rw [hp0]; rfl⟩, if_neg (by simp only [pieceAt, decide_eq_true_eq]; unfold Rc.n at *; omega)]
      rw [← hpt, ← hsn]
      exact recGo_miss hE hold hM i0 hi0 hmiss m (k + 1) (by omega) (by omega)
    · have hno : ∀ q, pieceB d' n (ct + k) = some q → q.ep < E := fun q hq => by
        rcases hM k hkn with h | h | h
        · exact absurd h hnew
        · exact hold (ct + k) q (by omega) (by omega) (by rw [← h]; exact hq)
        · rw [h] at hq; cases hq
      rw [hpt]
      have hl2 : ct + (p0 :: t).length = ct + k := by rw [← hpt, hlen]
      simp only [recGo, hl2]
      cases hq : pieceB d' n (ct + k) with
      | none => rfl
      | some q =>
        have := hno q hq
        simp only
        rw [if_neg (fun hc => by omega)]
theorem stepB_nil {d : Dsk} {l : Lg} {f : Nat} (h : l.recordB d f = []) : stepB d l f = none := by
  unfold stepB
  rw [h]
  rfl
theorem stepB_same {d d' : Dsk} {l : Lg} {f : Nat} (hL : d'.L.length = d.L.length) (h : l.recordB d' f = l.recordB d f) (hs : stepB d l f = none) : stepB d' l f = none := by
  have hh : l.homes d' = l.homes d := by unfold Lg.homes; rw [hL]
  unfold stepB at hs ⊢
  rw [h, hh]
  cases hj : joinB (l.recordB d f) with
  | none => rfl
  | some b =>
    rw [hj] at hs
    simp only at hs ⊢
    cases hd : decB b (l.homes d) with
    | none => rfl
    | some ps => rw [hd] at hs; cases hs
/-- It ends where the first piece is an elder one. -/
theorem step_old {d d' : Dsk} {l : Lg} {f E : Nat} (hL : d'.L.length = d.L.length) (ht : l.tail ≤ l.next) (hfE : f = E ∨ stepB d l f = none)
    (hold : ∀ c q, l.next ≤ c → c < l.tail + l.n → pieceB d l.n c = some q → q.ep < E)
    (hM : ∀ c, l.next ≤ c → c < l.tail + l.n → pieceB d' l.n c = pieceB d l.n c ∨ pieceB d' l.n c = none ∨ ∃ q, pieceB d' l.n c = some q ∧ q.ep = E)
    (h0 : l.next < l.tail + l.n → pieceB d' l.n l.next = pieceB d l.n l.next ∨ pieceB d' l.n l.next = none) : stepB d' l f = none := by
  have hfr : l.free = l.n - (l.next - l.tail) := rfl
  cases hm : l.free with
  | zero => exact stepB_nil (by unfold Lg.recordB; rw [hm]; rfl)
  | succ m =>
    have hlt : l.next < l.tail + l.n := by omega
    have e : ∀ x : Dsk, l.recordB x f = recGo x l.n l.next f (m + 1) [] := fun x => by unfold Lg.recordB; rw [hm]
    have hz : l.next + ([] : List Pc).length = l.next := rfl
    rcases h0 hlt with h | h
    · cases hq : pieceB d l.n l.next with
      | none => exact stepB_nil (by rw [e]; simp only [recGo, hz, h, hq])
      | some q =>
        have hqE := hold _ q (Nat.le_refl _) hlt hq
        rcases hfE with rfl | hs
        · refine stepB_nil (by
            rw [e]
            simp only [recGo, hz, h, hq]
            rw [if_neg (fun hc => by omega)])
        · have key : l.recordB d' f = [] ∨ l.recordB d' f = l.recordB d f := by
            rw [e, e]
            simp only [recGo, hz, h, hq]
            split
            · split
              · exact .inr rfl
              · exact recGo_old hM q hqE m [] (by simp; omega)
            · exact .inl rfl
          rcases key with key | key
          · exact stepB_nil key
          · exact stepB_same hL key hs
    · exact stepB_nil (by rw [e]; simp only [recGo, hz, h])
/-- Of records that wait, of which some pieces last, the first ones are said. -/
theorem mix_chain {d d' : Dsk} {E : Nat} (hL : d'.L.length = d.L.length) : ∀ (P : List Rc) (l : Lg) (f : Nat), l.homes d ≤ 4096 → Goods (l.homes d) E l.next P → l.tail ≤ l.next → endCt l.next P ≤ l.tail + l.n → f ≤ E → (f = E ∨ stepB d l f = none) →
    (∀ c q, l.next ≤ c → c < l.tail + l.n → pieceB d l.n c = some q → q.ep < E) →
    (∀ c, l.next ≤ c → c < l.tail + l.n → pieceB d' l.n c = pieceB d l.n c ∨ pieceB d' l.n c = none ∨ ∃ q ∈ allPcs l.next P, q.ct = c ∧ pieceB d' l.n c = some q) →
    ∃ j, j ≤ P.length ∧ Chain d' l.n (l.homes d) l.next f (P.take j) ∧ stepB d' (Lg.behind l (P.take j)) (lastF f (P.take j)) = none
  | [], l, f, hh, hg, ht, he, hf, hfE, hold, hM => by
    refine ⟨0, Nat.le_refl _, trivial, ?_⟩
    have hM' : ∀ c, l.next ≤ c → c < l.tail + l.n → pieceB d' l.n c = pieceB d l.n c ∨ pieceB d' l.n c = none := fun c h1 h2 => by
      rcases hM c h1 h2 with h | h | ⟨q, h, _⟩
      · exact .inl h
      · exact .inr h
      · cases h
    exact step_old hL ht hfE hold (fun c h1 h2 => (hM' c h1 h2).imp id .inl) fun h => hM' _ (Nat.le_refl _) h
  | r :: rs, l, f, hh, hg, ht, he, hf, hfE, hold, hM => by
    obtain ⟨hrE, hgr, hgs⟩ := hg
    have he' : endCt (l.next + r.n) rs ≤ l.tail + l.n := he
    have hle := endCt_le rs (l.next + r.n)
    have hpos := r.pos
    have hMr : ∀ i, i < r.n → pieceB d' l.n (l.next + i) = some (pieceAt r.ep l.next (recB r.ps) i) ∨ pieceB d' l.n (l.next + i) = pieceB d l.n (l.next + i) ∨ pieceB d' l.n (l.next + i) = none := fun i hi => by
      rcases hM (l.next + i) (by omega) (by omega) with h | h | ⟨q, hq, hc, h⟩
      · exact .inr (.inl h)
      · exact .inr (.inr h)
      · left
        rcases List.mem_append.1 hq with hq | hq
        · obtain ⟨j, hj, rfl⟩ := mem_pcs hq
          simp only [pieceAt] at hc
          obtain rfl : j = i := by omega
          exact h
        · have := (allPcs_ct rs _ q hq).1
          omega
    by_cases hall : ∀ i, i < r.n → pieceB d' l.n (l.next + i) = some (pieceAt r.ep l.next (recB r.ps) i)
    · have hS : ∀ q ∈ r.pcs l.next, d'.get (2 + q.ct % l.n) = sealB q := fun q hq => by
        obtain ⟨i, hi, rfl⟩ := mem_pcs hq
        exact (pieceB_get (hall i hi)).1
      obtain ⟨j, hj, hch, hst⟩ := mix_chain hL rs { l with H := takeH l.H r.ps, next := l.next + r.n } r.ep hh hgs (by simp only; omega) he' (by omega) (.inl hrE)
        (fun c q h1 h2 h3 => hold c q (by simp only at h1; omega) h2 h3) (fun c h1 h2 => by
          simp only at h1 h2
          rcases hM c (by omega) h2 with h | h | ⟨q, hq, hc, h⟩
          · exact .inl h
          · exact .inr (.inl h)
          · rcases List.mem_append.1 hq with hq | hq
            · obtain ⟨i, hi, rfl⟩ := mem_pcs hq
              simp only [pieceAt] at hc
              omega
            · exact .inr (.inr ⟨q, hq, hc, h⟩))
      exact ⟨j + 1, by simp only [List.length_cons]; omega, ⟨by omega, hgr, hS, hch⟩, hst⟩
    · obtain ⟨i0, hi0, hmiss⟩ : ∃ i, i < r.n ∧ pieceB d' l.n (l.next + i) ≠ some (pieceAt r.ep l.next (recB r.ps) i) := by
        have := Classical.not_forall.1 hall
        obtain ⟨i, hi⟩ := this
        exact ⟨i, Classical.not_imp.1 hi⟩
      refine ⟨0, Nat.zero_le _, trivial, ?_⟩
      show stepB d' l f = none
      by_cases h0 : pieceB d' l.n l.next = some (pieceAt r.ep l.next (recB r.ps) 0)
      · have hi1 : 1 ≤ i0 := by
          rcases Nat.eq_zero_or_pos i0 with h | h
          · subst h
            exact absurd h0 hmiss
          · exact h
        have hfr : l.free = l.n - (l.next - l.tail) := rfl
        refine stepB_nil ?_
        unfold Lg.recordB
        cases hm : l.free with
        | zero => rfl
        | succ m =>
          have hz : l.next + ([] : List Pc).length = l.next := rfl
          simp only [recGo, hz, h0]
          rw [if_pos ⟨by simp [pieceAt], by simp only [pieceAt]; omega⟩, if_neg (by simp only [pieceAt, decide_eq_true_eq]; unfold Rc.n at *; omega)]
          have h1 : (r.pcs l.next).take 1 = [pieceAt r.ep l.next (recB r.ps) 0] := by
            have := r.get l.next (i := 0) hpos
            cases hc : r.pcs l.next with
            | nil => rw [hc] at this; cases this
            | cons a b => rw [hc] at this; cases this; rfl
          rw [← h1]
          exact recGo_miss hrE (fun c q h2 h3 => hold c q h2 (by omega)) hMr i0 hi0 hmiss m 1 (by decide) hi1
      · refine step_old hL ht hfE hold (fun c h1 h2 => ?_) fun h => ?_
        · rcases hM c h1 h2 with h | h | ⟨q, hq, hc, h⟩
          · exact .inl h
          · exact .inr (.inl h)
          · exact .inr (.inr ⟨q, h, allPcs_ep (homes := l.homes d) (r :: rs) l.next ⟨hrE, hgr, hgs⟩ q hq⟩)
        · have := hMr 0 hpos
          rw [Nat.add_zero] at this
          exact this.resolve_left h0
end Go.Proofs.YtmakpbjknklpiaaGreat
