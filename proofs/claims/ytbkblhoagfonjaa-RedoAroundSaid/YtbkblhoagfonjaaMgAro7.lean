/- Proved: RedoAround returns true and its arguments read as they did. No condition: of all numbers and calls. -/
import Derived.Test.YtbkblhoagfonjaaMgAro6
import Derived.Test.YtbkblhoagfonjaaMgSb21
/- What RedoAround keeps: plain. -/
namespace Go.Proofs.Ytbkblhoagfonjaa
open Go.RowKit Go.Tn Go.Tn.Bt Go.Tn.Lp Go.Tn.Dk
theorem home_getD (l : Lg) (d : Dsk) (k : Nat) : l.home d k = (l.H k).getD (d.get (2 + l.n + k)) := by
  unfold Lg.home
  cases l.H k <;> rfl
theorem set_range (N : Nat) (f : Nat → List Nat) (i : Nat) (b : List Nat) : ((List.range N).map f).set i b = (List.range N).map fun k => if k = i then b else f k := by
  apply List.ext_getElem?
  intro j
  rw [List.getElem?_set, List.length_map, List.length_range, List.getElem?_map, List.getElem?_map]
  by_cases hj : j < N
  · rw [List.getElem?_range hj]
    by_cases h : i = j
    · subst h
      simp [hj]
    · rw [if_neg h]
      simp [show ¬ j = i from fun e => h e.symm]
  · rw [List.getElem?_eq_none (l := List.range N) (by rw [List.length_range]; omega)]
    by_cases h : i = j
    · subst h
      simp [hj]
    · rw [if_neg h]
      rfl
theorem over_take (N : Nat) (g : Nat → List Nat) : ∀ (ps : List Pt) (H : Nat → Option (List Nat)), (∀ p ∈ ps, 0 ≤ p.1 ∧ p.1 < N) → overB ((List.range N).map fun k => (H k).getD (g k)) ps = (List.range N).map fun k => (takeH H ps k).getD (g k)
  | [], H, _ => rfl
  | p :: ps, H, h => by
    have hp := h p List.mem_cons_self
    have ih := over_take N g ps (fun k => if (k : Int) = p.1 then some p.2 else H k) fun q hq => h q (List.mem_cons_of_mem _ hq)
    show overB (if 0 ≤ p.1 ∧ p.1 < ((((List.range N).map fun k => (H k).getD (g k)).length : Nat) : Int) then ((List.range N).map fun k => (H k).getD (g k)).set p.1.toNat p.2 else (List.range N).map fun k => (H k).getD (g k)) ps = (List.range N).map fun k => (takeH (fun k : Nat => if (k : Int) = p.1 then some p.2 else H k) ps k).getD (g k)
    rw [if_pos (by simp; omega), set_range, ← ih]
    congr 1
    refine List.map_congr_left fun k _ => ?_
    by_cases hk : (k : Int) = p.1
    · rw [if_pos (by omega), if_pos hk]
      rfl
    · rw [if_neg (by omega), if_neg hk]
theorem homesB_write {l l' : Lg} {d d' : Dsk} {ps : List Pt} {pcs : List Pc} (hn2 : 2 ≤ l.n) (hn : l'.n = l.n) (hH : l'.H = takeH l.H ps) (hL : d'.L = d.L) (hQ : d'.Q = d.Q ++ ringQ l.n pcs) (ht : transB ps (l.homes d) = true) : homesB l' d' = overB (homesB l d) ps := by
  have hh : l'.homes d' = l.homes d := by unfold Lg.homes; rw [hn, hL]
  unfold homesB
  rw [hh]
  have e1 : l.home d = fun k => (l.H k).getD (d.get (2 + l.n + k)) := funext (home_getD l d)
  have e2 : l'.home d' = fun k => (takeH l.H ps k).getD (d.get (2 + l.n + k)) := funext fun k => homes_write hn2 hn hH hL hQ k
  rw [e1, e2, over_take]
  intro p hp
  have := ((transB_iff ps _).1 ht).2.2.1 p hp
  exact ⟨this.1, this.2.1⟩
/-- No end of heads or ring has a greater epoch. -/
def Ends (d : Dsk) (k E : Nat) : Prop := ∀ i, i < k → (endsB (d.get i)).1 ≤ E ∧ (endsB (d.get i)).2 ≤ E
theorem Ends.newest {d : Dsk} {E : Nat} : ∀ k, Ends d k E → newestB d k ≤ E
  | 0, _ => Nat.zero_le _
  | k + 1, h => by
    have ih := Ends.newest k fun i hi => h i (by omega)
    have h1 := h k (by omega)
    simp only [newestB]
    omega
structure AInv (n i : Nat) (l : Lg) (d : Dsk) (want : List (List Nat)) : Prop where
  rg : ∃ F D P, Rg d l F D P
  calm : Dsk.calm d
  rn : l.n = n
  err : l.err = 0
  len : d.L.length = n + 10
  ep : l.epoch = 1
  ends : Ends d (2 + n) 1
  next : l.next ≤ 100 * i
  gen : l.gen ≤ i
  want : want = homesB l d
  q : d.Q.length ≤ 100 * i
theorem AInv.mono {n i j : Nat} {l : Lg} {d : Dsk} {want : List (List Nat)} (h : AInv n i l d want) (hij : i ≤ j) : AInv n j l d want :=
  ⟨h.rg, h.calm, h.rn, h.err, h.len, h.ep, h.ends, by have := h.next; omega, by have := h.gen; omega, h.want, by have := h.q; omega⟩
theorem AInv.homes {n i : Nat} {l : Lg} {d : Dsk} {want : List (List Nat)} (h : AInv n i l d want) : l.homes d = 8 := by
  unfold Lg.homes
  rw [h.len, h.rn]
  omega
theorem AInv.ok {n i : Nat} {l : Lg} {d : Dsk} {want : List (List Nat)} (h : AInv n i l d want) (hi : i ≤ 1000) : l.ok d := by
  obtain ⟨F, D, P, hr⟩ := h.rg
  exact hr.fit.ok (by have := h.next; omega)
theorem around_init {n : Nat} (h1 : 10 ≤ n) (h2 : n ≤ 16) : AInv n 0 (log0 n 1 0 0) (newD (n + 10)) (homesB (log0 n 1 0 0) (newD (n + 10))) := by
  have hok := newD_ok (n := n + 10) (by omega) (by omega)
  have hL : (newD (n + 10)).L.length = n + 10 := by simp [newD]
  refine ⟨⟨1, [], [], (log0_fit (by omega) (by omega) (by decide) (by decide)), hok, ⟨.inr ⟨head_zero (by omega), rfl, rfl, rfl⟩, trivial, (fun q hq => by cases hq), Nat.le_add_right _ _, Nat.le_refl _, .inl rfl, fun c q c1 c2 hq => ?_⟩, rfl, trivial, rfl, rfl⟩, newD_calm _, rfl, rfl, hL, rfl, ?_, Nat.zero_le _, Nat.zero_le _, rfl, Nat.zero_le _⟩
  · have c2 : c < 0 + n := c2
    have hq : pieceB (newD (n + 10)) n c = some q := hq
    show q.ep < 1
    have hm := Nat.mod_lt c (show 0 < n by omega)
    unfold pieceB at hq
    rw [newd_get (by omega), unseal_zero] at hq
    simp only at hq
    split at hq
    · cases hq
      decide
    · cases hq
  · intro i hi
    rw [newd_get (by omega), ends_zero]
    exact ⟨Nat.zero_le _, Nat.zero_le _⟩
/-- A transaction that there is room for. -/
theorem around_write {n i : Nat} {l : Lg} {d : Dsk} {want : List (List Nat)} (h : AInv n i l d want) (hi : i ≤ 1000) {ps : List Pt} (hb : ∀ p ∈ ps, ∀ x ∈ p.2, x < 256) (ht : transB ps 8 = true) {pcs : List Pc} (hc : cutB l.epoch l.next (recB ps) = .ok pcs) (hf : pcs.length ≤ l.free) (hok : (l.write d ps).2.1.ok) :
    (l.write d ps).2.2 = 0 ∧ AInv n (i + 1) (l.write d ps).1 (l.write d ps).2.1 (overB want ps) := by
  obtain ⟨F, D, P, hr⟩ := h.rg
  have ht' : transB ps (l.homes d) = true := by rw [h.homes]; exact ht
  have hw := write_calm h.calm h.err ht' hc hf
  have hpl : pcs.length ≤ 100 := by
    have hn := recN ht
    have : pcs.length = cutN (recB ps) := by
      unfold cutB at hc
      split at hc
      · cases hc
      · split at hc
        · cases hc
        · cases hc; rw [cutL_len]
    omega
  have hpe : ∀ q ∈ pcs, q.ok ∧ q.ep = 1 := fun q hq => by
    have hg : (⟨l.epoch, ps⟩ : Rc).good 8 l.next := ⟨ht, hb, by
      rw [hc]
      unfold cutB at hc
      split at hc
      · cases hc
      · split at hc
        · cases hc
        · cases hc; rfl⟩
    have hpc : pcs = (⟨l.epoch, ps⟩ : Rc).pcs l.next := by
      have := hg.cut
      rw [hc] at this
      cases this
      rfl
    rw [hpc] at hq
    obtain ⟨j, hj, rfl⟩ := mem_pcs hq
    exact ⟨hg.ok _ hq, h.ep⟩
  rw [hw] at hok ⊢
  simp only at hok ⊢
  refine ⟨trivial, ⟨⟨F, D, _, hr.write ht' hb hc hf rfl rfl hok⟩, ⟨h.calm.fuse, h.calm.on⟩, h.rn, h.err, h.len, h.ep, fun j hj => ?_, by have := h.next; simp only; omega, by have := h.gen; simp only; omega, ?_, ?_⟩⟩
  · have hg : ({ d with Q := d.Q ++ ringQ l.n pcs } : Dsk).get j = seenQ (ringQ l.n pcs) j (d.get j) := by
      unfold Dsk.get
      exact seen_append _ _ _ _
    rw [hg]
    rcases seen_or (ringQ l.n pcs) j (d.get j) with e | ⟨x, hx, _, e⟩
    · rw [e]; exact h.ends j hj
    · rw [e]
      obtain ⟨q, hq, rfl⟩ := List.mem_map.1 hx
      have := hpe q hq
      simp only
      rw [ends_seal this.1, this.2]
      exact ⟨Nat.le_refl _, Nat.le_refl _⟩
  · rw [h.want]
    exact (homesB_write (l := l) (l' := { l with next := l.next + pcs.length, H := takeH l.H ps }) (d := d) (d' := { d with Q := d.Q ++ ringQ l.n pcs }) (pcs := pcs) hr.fit.n2 rfl rfl rfl rfl ht').symm
  · simp only [List.length_append, ringQ, List.length_map]
    have := h.q
    omega
theorem around_check {n i : Nat} {l : Lg} {d : Dsk} {want : List (List Nat)} (h : AInv n i l d want) (hi : i ≤ 1000) (hok : (l.check d).2.1.ok) :
    (l.check d).2.2 = 0 ∧ AInv n (i + 1) (l.check d).1 (l.check d).2.1 want ∧ (l.check d).1.free = n := by
  obtain ⟨F, D, P, hr⟩ := h.rg
  obtain ⟨d', hc, hcalm, hL, hQ, hrg, hho, hlow⟩ := check_calm hr h.calm h.err (by have := h.gen; omega) (by have := h.next; omega)
  rw [hc] at hok ⊢
  simp only at hok ⊢
  have hrg' := hrg hok
  refine ⟨trivial, ⟨⟨_, _, _, hrg'⟩, hcalm, h.rn, h.err, by rw [hL, h.len], h.ep, ?_, by have := h.next; simp only; omega, by have := h.gen; simp only; omega, ?_, by rw [hQ]; exact Nat.zero_le _⟩, ?_⟩
  · intro j hj
    have hj : j < 2 + l.n := by have := h.rn; omega
    rcases hlow j hj with e | e
    · rw [e, ends_seal (headPc_ok hr.fit.epoch (by have := h.gen; simp only; omega))]
      have := h.ep
      simp only [headPc]
      omega
    · rw [e]
      exact h.ends j (by have := h.rn; omega)
  · rw [h.want]
    unfold homesB
    have hh : ({ l with gen := l.gen + 1, tail := l.next, H := fun _ => none } : Lg).homes d' = l.homes d := by unfold Lg.homes; rw [hL]
    rw [hh]
    refine List.map_congr_left fun k hk => ?_
    have := hho k (List.mem_range.1 hk)
    rw [← this]
    rfl
  · show l.n - (l.next - l.next) = n
    rw [h.rn]
    omega
/-- What Write may answer. -/
theorem around_cases {n i : Nat} {l : Lg} {d : Dsk} {want : List (List Nat)} (h : AInv n i l d want) (hi : i ≤ 1000) {ps : List Pt} (h6 : ps.length ≤ 6) :
    (transB ps 8 = false ∧ l.write d ps = (l, d, 2)) ∨ (transB ps 8 = true ∧ ∃ pcs, cutB l.epoch l.next (recB ps) = .ok pcs ∧ pcs.length ≤ l.free) ∨
    (transB ps 8 = true ∧ l.write d ps = (l, d, 8) ∧ ∃ pcs : Nat, pcs ≤ 8 ∧ ∀ l' : Lg, l'.epoch = 1 → l'.next ≤ 1000000 → ∃ ps', cutB l'.epoch l'.next (recB ps) = .ok ps' ∧ ps'.length ≤ 8) := by
  have hh := h.homes
  cases ht : transB ps 8 with
  | false => exact .inl ⟨rfl, write_arg h.err (by rw [hh]; exact ht)⟩
  | true =>
    have hn := recN ht
    have h1 := (transB_iff ps 8).1 ht
    have h2 := recB_len fun p hp => (h1.2.2.1 p hp).2.2
    have h8 : cutN (recB ps) ≤ 8 := by omega
    have hc := cut_ok (ep := l.epoch) (ct := l.next) ht (by have := h.ep; omega) (by have := h.next; omega)
    by_cases hf : cutN (recB ps) ≤ l.free
    · exact .inr (.inl ⟨rfl, _, hc, by rw [cutL_len]; exact hf⟩)
    · refine .inr (.inr ⟨rfl, write_full h.err (by rw [hh]; exact ht) hc (by rw [cutL_len]; omega), 8, Nat.le_refl _, fun l' he hx => ⟨_, cut_ok ht (by omega) (by omega), by rw [cutL_len]; exact h8⟩⟩)
/-- Synced and opened anew: the same homes. -/
theorem around_end {n i : Nat} {l : Lg} {d : Dsk} {want : List (List Nat)} (h : AInv n i l d want) (hi : i ≤ 1000) (hn : 2 ≤ n) : l.sync d = (l, d.flush) ∧ Dsk.calm d.flush ∧ d.flush.L.length = n + 10 ∧ newestB d.flush (2 + n) < 16777215 ∧ ∃ l2, openB d.flush n = some l2 ∧ l2.ok d.flush ∧ homesB l2 d.flush = want := by
  obtain ⟨F, D, P, hr⟩ := h.rg
  have hL : d.flush.L.length = d.L.length := flush_L d
  have hrf : Rg d.flush l F (D ++ P) [] := by
    rw [h.calm.flush]
    refine hr.flush rfl rfl ?_
    have := hr.dok.flush
    rwa [h.calm.flush] at this
  have hg : ∀ j, j < d.L.length → d.flush.get j = d.get j := fun j hj => by
    rw [h.calm.flush]
    exact flush_get rfl rfl hj
  have hlen := h.len
  have hE : Ends d.flush (2 + n) 1 := fun j hj => by
    rw [hg j (by omega)]
    exact h.ends j hj
  have hnew := hE.newest
  have hln := h.rn
  obtain ⟨l2, ho, e1, e2, e3, e4, e5, e6, e7, hr2⟩ := hrf.open_ (by rw [hln]; omega)
  rw [hln] at ho e1
  refine ⟨sync_calm h.calm h.err, by rw [h.calm.flush]; exact ⟨h.calm.fuse, h.calm.on⟩, by rw [hL, hlen], by omega, l2, ho, hr2.fit.ok (by have := h.next; omega), ?_⟩
  rw [h.want]
  have hh : l2.homes d.flush = l.homes d := by unfold Lg.homes; rw [hL, e1, hln]
  unfold homesB
  rw [hh]
  refine List.map_congr_left fun k hk => ?_
  have hk := List.mem_range.1 hk
  rw [home_getD, home_getD, e2, e1, hln, hg]
  rw [h.homes] at hk
  omega
end Go.Proofs.Ytbkblhoagfonjaa

/- RedoAround, walked. -/
namespace Go.Proofs.Ytbkblhoagfonjaa
open Go.RowKit Go.Tn Go.Tn.Bt Go.Tn.Lp Go.Tn.Dk
/-- Where a log and its disk stand, and homes beside them. -/
def AAt (w : World) (g p n i : Nat) (vw : Value) (wi : World) : Prop := ∃ (F FD : Nat → Prop) (l : Lg) (d : Dsk) (want : List (List Nat)), LAt wi F g p l ∧ DAt wi FD p d ∧ (∀ b, F b → ¬ FD b) ∧ (∀ b, F b ∨ FD b → w.heap.size ≤ b) ∧ BlA wi (fun b => F b ∨ FD b) vw want ∧ AInv n i l d want ∧ Below w.heap.size w wi
set_option maxRecDepth 20000 in
set_option maxHeartbeats 4000000 in
theorem around_walk (w : World) (n : Int) (v : Value) (ds : List DoP) (hds : DosI w v ds) : Calls Try.prog 4 #[.int .i64 n, v] w fun e w' => e = .returned (.bool true) ∧ Below w.heap.size w w' := by
  obtain ⟨k, hkw, hk10, hk16⟩ := within_nat n (show 10 ≤ 16 by decide)
  obtain ⟨a0, n0, c0, rfl⟩ : ∃ a n c, v = .slice a n c := by
    obtain ⟨xs, -, ⟨ao, cap, rfl, -⟩, -⟩ := hds
    exact ⟨_, _, _, rfl⟩
  obtain ⟨xs, hxs, hxL, hxD⟩ := hds
  have hxl : xs.length = ds.length := by rw [← hxs]; simp
  obtain ⟨ao, ca, hvv, x1, x2, x3⟩ := hxL
  obtain ⟨rfl, rfl, rfl⟩ : a0 = ao ∧ n0 = xs.length ∧ c0 = ca := by simpa using hvv
  rw [hxl] at x1 x3 ⊢
  unfold maxLen at x2
  have hb63 : (ds.length : Int) ≤ 9223372036854775807 := by omega
  have hwi := within_any w n 10 16
  rw [show ((10 : Nat) : Int) = 10 from rfl, show ((16 : Nat) : Int) = 16 from rfl] at hkw
  rw [hkw] at hwi
  have hk63 : (k : Int) ≤ 16 := by omega
  have hk0 : (10 : Int) ≤ (k : Int) := by omega
  have hnw := newd_any w (k + 10) (by omega) (by omega)
  rw [show ((k + 10 : Nat) : Int) = (k : Int) + 10 by omega] at hnw
  have HXS := Lib.hid hxs
  have HXD := Lib.hid hxD
  have HXL := Lib.hid hxl
  clear hkw hxs hxD hxl hvv
  go_enter Try.func4, Try.ntmps4
  go_wp2_with (first
    | (go_at_call 7; refine hwi.mono ?_; rintro e w2 ⟨rfl, hw⟩; obtain rfl := hw.symm; clear hw)
    | fail)
  refine hnw.mono ?_
  rintro e w1 ⟨p, FD, rfl, hD, hb1, hF⟩
  clear hnw hwi
  have ho := open_main hD k (by omega) (by simp [newD]) (by omega) (by rw [newest_zero _ _ (by omega)]; decide) _ (open_new (by omega) (by omega))
  go_wp2_with fail
  refine ho.mono ?_
  rintro e w2 ⟨g, F, rfl, hL, hb2, hG⟩
  clear ho
  have hD2 := hD.below hb2
  have hFG : ∀ b, F b → ¬ FD b := fun b h1 h2 => absurd (hD.lt b h2) (Nat.not_lt.2 (hG b h1))
  have hI := around_init hk10 hk16
  have hho := lhomes_any hL hD2 (hI.ok (by decide))
  have hlow : ∀ b, F b ∨ FD b → w.heap.size ≤ b := fun b h => by
    rcases h with h | h
    · have := hG b h; have := hb1.size; omega
    · exact hF b h
  have hb02 : Below w.heap.size w w2 := hb1.trans (hb2.mono hb1.size)
  have HL := Lib.hid hL
  have HD := Lib.hid hD2
  have HFG := Lib.hid hFG
  have HLOW := Lib.hid hlow
  have HI := Lib.hid hI
  have HB2 := Lib.hid hb02
  clear hL hD hD2 hFG hlow hI hb02 hb1 hb2 hF hG
  go_wp2_with fail
  refine hho.mono ?_
  rintro e w3 ⟨v3, rfl, hO3, hb3⟩
  clear hho
  have hA3 : AAt w g p k 0 v3 w3 := ⟨F, FD, _, _, _, HL.out.below hb3, HD.out.below hb3, HFG.out, HLOW.out, hO3.a fun b hb => by
    rcases hb with h | h
    · exact HL.out.lt b h
    · exact HD.out.lt b h, HI.out, HB2.out.trans (hb3.mono HB2.out.size)⟩
  obtain ⟨a3, n3, c3, rfl⟩ : ∃ a n c, v3 = .slice a n c := by
    obtain ⟨ys, -, hy, -⟩ := hO3
    exact hy.shape
  have HA3 := Lib.hid hA3
  clear hO3 hb3 hA3 HL HD HFG HLOW HI HB2
  go_wp2_with fail
  go_loopw [9, 10] (fun vw iv wi => ∃ i : Nat, i ≤ ds.length ∧ i ≤ 40 ∧ iv = .int .i64 i ∧ AAt w g p k (2 * i) vw wi) (fun _ iv _ => ds.length - (intOf iv).toNat)
  case atStart => exact ⟨0, Nat.zero_le _, Nat.zero_le _, rfl, HA3.out⟩
  case round =>
    obtain ⟨i, hi, hi40, rfl, hA⟩ := hrel
    by_cases hin : i < ds.length ∧ i < 40
    · obtain ⟨hil, hi4⟩ := hin
      have hd1 : decide (i < ds.length) = true := by simp [hil]
      have hd2 : decide ((i : Int) < 40) = true := by simp; omega
      obtain ⟨x, hx⟩ : ∃ x, xs[i]? = some x := ⟨_, List.getElem?_eq_getElem (by rw [HXL.out]; exact hil)⟩
      obtain ⟨b4, o4, rfl, hb4, hc4⟩ := x3 (by omega)
      obtain ⟨F, FD, l, d, want, hL, hD, hFF, hlow, hW, hI, hbw⟩ := hA
      have hlx := (hc4 i x hx).below' hbw hb4
      have hdx := HXD.out x (List.mem_of_getElem? hx)
      obtain ⟨⟨kd, nm, qs, od, kp⟩, ⟨a5, n5, c5⟩, ⟨a6, n6, c6⟩⟩ := x
      have q2 : wr.cell? ⟨b4, o4 + i * 5 + 2, none⟩ = some (.slice a5 n5 c5) := hlx 2 (by simp [enDo])
      have hqs := hdx.1.below hbw
      have hq8 := hdx.2.1
      simp only at hqs hq8
      have hfew := few_any wr _ qs hqs 6 (by omega) false
      have hf8 := few_lt hq8 6 false
      have hfl := few_len qs 6 false
      generalize fewB qs 6 false = ps at *
      rw [show ((6 : Nat) : Int) = 6 from rfl] at hfew
      obtain ⟨aw, nw, cw, rfl⟩ := hW.shape
      have HL := Lib.hid hL
      have HD := Lib.hid hD
      have HFF := Lib.hid hFF
      have HLOW := Lib.hid hlow
      have HW := Lib.hid hW
      have HI := Lib.hid hI
      have HB := Lib.hid hbw
      have HF8 := Lib.hid hf8
      have HFL := Lib.hid hfl
      clear hx hL hD hFF hlow hW hI hbw hlx hdx hqs hq8 hf8 hfl hc4
      go_wp2_with fail
      refine hfew.mono ?_
      rintro e w4 ⟨v4, rfl, hO4, hb4'⟩
      clear hfew
      obtain ⟨a4, n4, c4, rfl⟩ := hO4.shape
      have hsz4 : wr.heap.size ≤ w4.heap.size := hb4'.size
      have hltS : ∀ b, F b ∨ FD b → b < wr.heap.size := fun b h => by
        rcases h with h | h
        · exact HL.out.lt b h
        · exact HD.out.lt b h
      have hP4 : PtB w4 (fun b => F b ∨ FD b) (.slice a4 n4 c4) ps := hO4.b fun b h => .inl (hltS b h)
      have hL4 := HL.out.below hb4'
      have hD4 := HD.out.below hb4'
      have hW4 := HW.out.below hb4' (S' := fun b => F b ∨ FD b) fun b h => .inl h
      have hB4 := HB.out.trans (hb4'.mono HB.out.size)
      have hwr := gwrite_any hL4 hD4 HFF.out (HI.out.ok (by omega)) _ ps hP4.a HF8.out (by have := HFL.out; omega) (by have := HI.out.q; omega)
      have HLEN : Hid (want.length = 8) := Lib.hid (by rw [HI.out.want]; unfold homesB; rw [List.length_map, List.length_range, HI.out.homes])
      have HP4 := Lib.hid hP4
      have HW4 := Lib.hid hW4
      have HB4 := Lib.hid hB4
      have HLO4 : Hid (∀ b, F b ∨ FD b → b < w4.heap.size) := Lib.hid fun b h => Nat.lt_of_lt_of_le (hltS b h) hsz4
      clear hO4 hb4' hltS hP4 hL4 hD4 hW4 hB4 HL HD HW HB q2
      rcases around_cases HI.out (by omega) (HFL.out) with ⟨ht, hw8⟩ | ⟨ht, pcs, hcu, hroom⟩ | ⟨ht, hw8, pcs, hpn, hcu⟩
      · -- refused
        rw [hw8] at hwr
        go_wp2_with fail
        refine hwr.mono ?_
        rintro e Wx ⟨rfl, Fx, FDx, hLx, hDx, hmx, hFx, hFDx, hFFx⟩
        have hSx : ∀ b, Fx b ∨ FDx b → (F b ∨ FD b) ∨ w4.heap.size ≤ b := fun b h => by
          rcases h with h | h
          · exact (hFx b h).imp .inl id
          · exact (hFDx b h).imp .inr id
        have hWx := HW4.out.mod hmx hSx
        have HPx := Lib.hid (HP4.out.mod hmx hSx).a.rd
        have HBx : Hid (Below w.heap.size w Wx) := Lib.hid (HB4.out.trans (hmx.below HB4.out.size fun x hx hS => absurd hx (Nat.not_lt.2 (HLOW.out x hS))))
        have HLOx : Hid (∀ b, Fx b ∨ FDx b → w.heap.size ≤ b) := Lib.hid fun b h => by
          rcases hSx b h with h | h
          · exact HLOW.out b h
          · exact Nat.le_trans HB4.out.size h
        have HLx := Lib.hid hLx
        have HDx := Lib.hid hDx
        have HFx := Lib.hid hFFx
        have HWx := Lib.hid hWx
        have HTx := Lib.hid ht
        have HIx := HI
        clear hwr hw8 ht hLx hDx hmx hFx hFDx hFFx hSx hWx HP4 HW4 HB4 HI
        have hho := lhomes_any HLx.out HDx.out (HIx.out.ok (by omega))
        rw [show homesB l d = want from HIx.out.want.symm] at hho
        have his := ris_any Wx _ ps HPx.out 8 (by decide)
        rw [HTx.out, show ((8 : Nat) : Int) = 8 from rfl] at his
        clear hho
        go_wp2_with (first
          | (go_at_call 10; refine his.mono ?_; rintro e w8 ⟨rfl, hb8⟩; have HB8 := Lib.hid hb8; clear hb8)
          | fail)
        have hho := lhomes_any (HLx.out.below HB8.out) (HDx.out.below HB8.out) (HIx.out.ok (by omega))
        rw [show homesB l d = want from HIx.out.want.symm] at hho
        refine hho.mono ?_
        rintro e w9 ⟨v9, rfl, hO9, hb9⟩
        clear hho
        have hS9 : ∀ b, Fx b ∨ FDx b → b < w8.heap.size := fun b h => by
          have := HB8.out.size
          rcases h with h | h
          · have := HLx.out.lt b h; omega
          · have := HDx.out.lt b h; omega
        have hA9 := hO9.a hS9
        have hsz8 : Wx.heap.size ≤ w8.heap.size := HB8.out.size
        have hb89 : Below Wx.heap.size Wx w9 := HB8.out.trans (hb9.mono HB8.out.size)
        have hW9 := HWx.out.below hb89 (S' := fun b => Fx b ∨ FDx b) fun b h => .inl h
        have hsm := lsame_any w9 _ _ _ _ _ hA9 hW9
        rw [decide_eq_true rfl] at hsm
        obtain ⟨a9, n9, c9, rfl⟩ := hA9.shape
        have HB9 := Lib.hid hb89
        clear hO9 hb9 hS9 hA9 hb89 hW9
        go_wp2_with fail
        refine hsm.mono ?_
        rintro e w10 ⟨rfl, hb10⟩
        have HB10 := Lib.hid (HB9.out.trans (hb10.mono HB9.out.size))
        clear hsm hb10
        go_wp2
        go_roundw
        case rel =>
          refine ⟨i + 1, by omega, by omega, by go_num, Fx, FDx, l, d, want, HLx.out.below HB10.out, HDx.out.below HB10.out, HFx.out, HLOx.out, HWx.out.below HB10.out fun b h => .inl h, HIx.out.mono (by omega), HBx.out.trans (HB10.out.mono HBx.out.size)⟩
        case measure => simp [intOf]; omega
      · -- written
        go_wp2_with fail
        refine hwr.mono ?_
        rintro e Wy ⟨rfl, Fx, FDx, hLx, hDx, hmx, hFx, hFDx, hFFx⟩
        obtain ⟨hz, hIx⟩ := around_write HI.out (by omega) HF8.out ht hcu hroom hDx.ok
        rw [hz]
        have hSx : ∀ b, Fx b ∨ FDx b → (F b ∨ FD b) ∨ w4.heap.size ≤ b := fun b h => by
          rcases h with h | h
          · exact (hFx b h).imp .inl id
          · exact (hFDx b h).imp .inr id
        have HWy := Lib.hid (HW4.out.mod hmx hSx)
        have HPy := Lib.hid (HP4.out.mod hmx hSx)
        have HSy : Hid (∀ b, Fx b ∨ FDx b → b < Wy.heap.size) := Lib.hid fun b h => by
          rcases h with h | h
          · exact hLx.lt b h
          · exact hDx.lt b h
        have HBy : Hid (Below w.heap.size w Wy) := Lib.hid (HB4.out.trans (hmx.below HB4.out.size fun x hx hS => absurd hx (Nat.not_lt.2 (HLOW.out x hS))))
        have HLOx : Hid (∀ b, Fx b ∨ FDx b → w.heap.size ≤ b) := Lib.hid fun b h => by
          rcases hSx b h with h | h
          · exact HLOW.out b h
          · exact Nat.le_trans HB4.out.size h
        have HLy := Lib.hid hLx
        have HDy := Lib.hid hDx
        have HFx := Lib.hid hFFx
        have HIx := Lib.hid hIx
        clear hwr ht hcu hroom hLx hDx hmx hFx hFDx hFFx hSx HP4 HW4 HB4 hIx hz
        obtain ⟨lx, hlx⟩ : ∃ lx, (l.write d ps).1 = lx := ⟨_, rfl⟩
        obtain ⟨dx, hdx⟩ : ∃ dx, (l.write d ps).2.1 = dx := ⟨_, rfl⟩
        obtain ⟨wx, hwx⟩ : ∃ wx, overB want ps = wx := ⟨_, rfl⟩
        rw [hlx, hdx, hwx] at HIx
        rw [hlx] at HLy
        rw [hdx] at HDy
        clear hlx hdx
        have hov := over_any Wy _ _ _ _ _ HWy.out HPy.out HSy.out (by rw [HLEN.out]; decide)
        go_wp2_with fail
        refine hov.mono ?_
        rintro e Wx ⟨vx, rfl, hWx, hbx⟩
        obtain ⟨ax, nx, cx, rfl⟩ := hWx.shape
        have HWx := Lib.hid hWx
        have HLx := Lib.hid (HLy.out.below hbx)
        have HDx := Lib.hid (HDy.out.below hbx)
        have HBx := Lib.hid (HBy.out.trans (hbx.mono HBy.out.size))
        clear hov hWx hbx
        rw [hwx] at HWx
        clear hwx
        have hho := lhomes_any HLx.out HDx.out (HIx.out.ok (by omega))
        rw [show homesB lx dx = wx from HIx.out.want.symm] at hho
        have HB8 : Hid (Below Wx.heap.size Wx Wx) := Lib.hid (Below.refl _ _)
        go_wp2_with fail
        refine hho.mono ?_
        rintro e w9 ⟨v9, rfl, hO9, hb9⟩
        clear hho
        have hS9 : ∀ b, Fx b ∨ FDx b → b < Wx.heap.size := fun b h => by
          have := HB8.out.size
          rcases h with h | h
          · have := HLx.out.lt b h; omega
          · have := HDx.out.lt b h; omega
        have hA9 := hO9.a hS9
        have hsz8 : Wx.heap.size ≤ Wx.heap.size := HB8.out.size
        have hb89 : Below Wx.heap.size Wx w9 := HB8.out.trans (hb9.mono HB8.out.size)
        have hW9 := HWx.out.below hb89 (S' := fun b => Fx b ∨ FDx b) fun b h => .inl h
        have hsm := lsame_any w9 _ _ _ _ _ hA9 hW9
        rw [decide_eq_true rfl] at hsm
        obtain ⟨a9, n9, c9, rfl⟩ := hA9.shape
        have HB9 := Lib.hid hb89
        clear hO9 hb9 hS9 hA9 hb89 hW9
        go_wp2_with fail
        refine hsm.mono ?_
        rintro e w10 ⟨rfl, hb10⟩
        have HB10 := Lib.hid (HB9.out.trans (hb10.mono HB9.out.size))
        clear hsm hb10
        go_wp2
        go_roundw
        case rel =>
          refine ⟨i + 1, by omega, by omega, by go_num, Fx, FDx, lx, dx, wx, HLx.out.below HB10.out, HDx.out.below HB10.out, HFx.out, HLOx.out, HWx.out.below HB10.out fun b h => .inl h, HIx.out.mono (by omega), HBx.out.trans (HB10.out.mono HBx.out.size)⟩
        case measure => simp [intOf]; omega
      · -- no room
        rw [hw8] at hwr
        go_wp2_with fail
        refine hwr.mono ?_
        rintro e W5 ⟨rfl, F5, FD5, hL5, hD5, hm5, hF5, hFD5, hFF5⟩
        have hck := check_any hL5 hD5 hFF5 (HI.out.ok (by omega)) (by have := HI.out.q; simp only; omega)
        have hS5 : ∀ b, F5 b ∨ FD5 b → (F b ∨ FD b) ∨ w4.heap.size ≤ b := fun b h => by
          rcases h with h | h
          · exact (hF5 b h).imp .inl id
          · exact (hFD5 b h).imp .inr id
        have HW5 := Lib.hid (HW4.out.mod hm5 hS5)
        have HP5 := Lib.hid (HP4.out.mod hm5 hS5)
        have HB5 : Hid (Below w.heap.size w W5) := Lib.hid (HB4.out.trans (hm5.below HB4.out.size fun x hx hS => absurd hx (Nat.not_lt.2 (HLOW.out x hS))))
        have HLO5 : Hid (∀ b, F5 b ∨ FD5 b → w.heap.size ≤ b) := Lib.hid fun b h => by
          rcases hS5 b h with h | h
          · exact HLOW.out b h
          · exact Nat.le_trans HB4.out.size h
        have HPN := Lib.hid hpn
        have HCU := Lib.hid hcu
        have HT := Lib.hid ht
        clear hwr hw8 ht hcu hpn hL5 hD5 hm5 hF5 hFD5 hFF5 hS5 HP4 HW4 HB4
        go_wp2_with fail
        refine hck.mono ?_
        rintro e W6 ⟨rfl, F6, FD6, hL6, hD6, hm6, hF6, hFD6, hFF6⟩
        obtain ⟨hz, hI6, hfr⟩ := around_check HI.out (by omega) hD6.ok
        rw [hz]
        clear hck hz
        obtain ⟨l6, hl6⟩ : ∃ l6, (l.check d).1 = l6 := ⟨_, rfl⟩
        obtain ⟨d6, hd6⟩ : ∃ d6, (l.check d).2.1 = d6 := ⟨_, rfl⟩
        rw [hl6] at hL6 hI6 hfr
        rw [hd6] at hD6 hI6
        clear hl6 hd6
        have hS6 : ∀ b, F6 b ∨ FD6 b → (F5 b ∨ FD5 b) ∨ W5.heap.size ≤ b := fun b h => by
          rcases h with h | h
          · exact (hF6 b h).imp .inl id
          · exact (hFD6 b h).imp .inr id
        have hok6 := hI6.ok (i := 2 * i + 1) (by omega)
        have hfre := free_any hL6 hok6.tail hok6.next hok6.small (by have := hI6.rn; omega)
        rw [hfr] at hfre
        have hW6 := HW5.out.mod hm6 hS6
        have hP6 := HP5.out.mod hm6 hS6
        have HB6 : Hid (Below w.heap.size w W6) := Lib.hid (HB5.out.trans (hm6.below HB5.out.size fun x hx hS => absurd hx (Nat.not_lt.2 (HLO5.out x hS))))
        have HLO6 : Hid (∀ b, F6 b ∨ FD6 b → w.heap.size ≤ b) := Lib.hid fun b h => by
          rcases hS6 b h with h | h
          · exact HLO5.out b h
          · exact Nat.le_trans HB5.out.size h
        have HL6 := Lib.hid hL6
        have HD6 := Lib.hid hD6
        have HF6 := Lib.hid hFF6
        have HI6 := Lib.hid hI6
        have HW6 := Lib.hid hW6
        have HP6 := Lib.hid hP6
        have HFR6 := Lib.hid hfr
        clear hL6 hD6 hm6 hF6 hFD6 hFF6 hS6 hW6 hP6 hI6 hfr hok6 HW5 HP5 HB5 HI HLO5
        go_wp2_with (first
          | (go_at_call 14; refine hfre.mono ?_; rintro e W7 ⟨rfl, hb7⟩; have HB7 := Lib.hid hb7; clear hb7)
          | fail)
        have hP7 := HP6.out.below HB7.out
        have hwr := gwrite_any (HL6.out.below HB7.out) (HD6.out.below HB7.out) HF6.out (HI6.out.ok (by omega)) _ ps hP7.a HF8.out (by have := HFL.out; omega) (by have := HI6.out.q; omega)
        have hW7 := HW6.out.below HB7.out (S' := fun b => F6 b ∨ FD6 b) fun b h => .inl h
        have HP7 := Lib.hid hP7
        have HW7 := Lib.hid hW7
        have HBb7 := Lib.hid (HB6.out.trans (HB7.out.mono HB6.out.size))
        clear hP7 hW7 hfre
        refine hwr.mono ?_
        rintro e Wy ⟨rfl, Fx, FDx, hLx, hDx, hmx, hFx, hFDx, hFFx⟩
        obtain ⟨pc6, hc6, hp6⟩ := HCU.out l6 HI6.out.ep (by have := HI6.out.next; omega)
        obtain ⟨hz, hIx⟩ := around_write HI6.out (by omega) HF8.out HT.out hc6 (by have := HFR6.out; omega) hDx.ok
        rw [hz]
        have hSx : ∀ b, Fx b ∨ FDx b → (F6 b ∨ FD6 b) ∨ W7.heap.size ≤ b := fun b h => by
          rcases h with h | h
          · exact (hFx b h).imp .inl id
          · exact (hFDx b h).imp .inr id
        have HWy := Lib.hid (HW7.out.mod hmx hSx)
        have HPy := Lib.hid (HP7.out.mod hmx hSx)
        have HSy : Hid (∀ b, Fx b ∨ FDx b → b < Wy.heap.size) := Lib.hid fun b h => by
          rcases h with h | h
          · exact hLx.lt b h
          · exact hDx.lt b h
        have HBy : Hid (Below w.heap.size w Wy) := Lib.hid (HBb7.out.trans (hmx.below HBb7.out.size fun x hx hS => absurd hx (Nat.not_lt.2 (HLO6.out x hS))))
        have HLOx : Hid (∀ b, Fx b ∨ FDx b → w.heap.size ≤ b) := Lib.hid fun b h => by
          rcases hSx b h with h | h
          · exact HLO6.out b h
          · exact Nat.le_trans HBb7.out.size h
        have HLy := Lib.hid hLx
        have HDy := Lib.hid hDx
        have HFx := Lib.hid hFFx
        have HIx := Lib.hid hIx
        clear hwr hc6 hp6 hLx hDx hmx hFx hFDx hFFx hSx hIx hz
        obtain ⟨lx, hlx⟩ : ∃ lx, (l6.write d6 ps).1 = lx := ⟨_, rfl⟩
        obtain ⟨dx, hdx⟩ : ∃ dx, (l6.write d6 ps).2.1 = dx := ⟨_, rfl⟩
        obtain ⟨wx, hwx⟩ : ∃ wx, overB want ps = wx := ⟨_, rfl⟩
        rw [hlx, hdx, hwx] at HIx
        rw [hlx] at HLy
        rw [hdx] at HDy
        clear hlx hdx
        have hov := over_any Wy _ _ _ _ _ HWy.out HPy.out HSy.out (by rw [HLEN.out]; decide)
        go_wp2_with fail
        refine hov.mono ?_
        rintro e Wx ⟨vx, rfl, hWx, hbx⟩
        obtain ⟨ax, nx, cx, rfl⟩ := hWx.shape
        have HWx := Lib.hid hWx
        have HLx := Lib.hid (HLy.out.below hbx)
        have HDx := Lib.hid (HDy.out.below hbx)
        have HBx := Lib.hid (HBy.out.trans (hbx.mono HBy.out.size))
        clear hov hWx hbx
        rw [hwx] at HWx
        clear hwx
        have hho := lhomes_any HLx.out HDx.out (HIx.out.ok (by omega))
        rw [show homesB lx dx = wx from HIx.out.want.symm] at hho
        have HB8 : Hid (Below Wx.heap.size Wx Wx) := Lib.hid (Below.refl _ _)
        go_wp2_with fail
        refine hho.mono ?_
        rintro e w9 ⟨v9, rfl, hO9, hb9⟩
        clear hho
        have hS9 : ∀ b, Fx b ∨ FDx b → b < Wx.heap.size := fun b h => by
          have := HB8.out.size
          rcases h with h | h
          · have := HLx.out.lt b h; omega
          · have := HDx.out.lt b h; omega
        have hA9 := hO9.a hS9
        have hsz8 : Wx.heap.size ≤ Wx.heap.size := HB8.out.size
        have hb89 : Below Wx.heap.size Wx w9 := HB8.out.trans (hb9.mono HB8.out.size)
        have hW9 := HWx.out.below hb89 (S' := fun b => Fx b ∨ FDx b) fun b h => .inl h
        have hsm := lsame_any w9 _ _ _ _ _ hA9 hW9
        rw [decide_eq_true rfl] at hsm
        obtain ⟨a9, n9, c9, rfl⟩ := hA9.shape
        have HB9 := Lib.hid hb89
        clear hO9 hb9 hS9 hA9 hb89 hW9
        go_wp2_with fail
        refine hsm.mono ?_
        rintro e w10 ⟨rfl, hb10⟩
        have HB10 := Lib.hid (HB9.out.trans (hb10.mono HB9.out.size))
        clear hsm hb10
        go_wp2
        go_roundw
        case rel =>
          refine ⟨i + 1, by omega, by omega, by go_num, Fx, FDx, lx, dx, wx, HLx.out.below HB10.out, HDx.out.below HB10.out, HFx.out, HLOx.out, HWx.out.below HB10.out fun b h => .inl h, HIx.out.mono (by omega), HBx.out.trans (HB10.out.mono HBx.out.size)⟩
        case measure => simp [intOf]; omega
    · by_cases hil : i < ds.length
      · have hd1 : decide (i < ds.length) = true := by simp [hil]
        have hd2 : decide ((i : Int) < 40) = false := by simp; omega
        obtain ⟨F, FD, l, d, want, hL, hD, hFF, hlow, hW, hI, hbw⟩ := hA
        have hsy := sync_any hL hD hFF
        obtain ⟨hse, hcal, hlen, hnew, l2, ho, hok2, hho⟩ := around_end hI (by omega) (by omega)
        rw [hse] at hsy
        simp only at hsy
        rw [hI.err] at hsy
        obtain ⟨aw, nw, cw, rfl⟩ := hW.shape
        have HW := Lib.hid hW
        have HLOW := Lib.hid hlow
        have HFF := Lib.hid hFF
        have HB := Lib.hid hbw
        have HO := Lib.hid ho
        have HOK2 := Lib.hid hok2
        have HHO := Lib.hid hho
        have HNEW := Lib.hid hnew
        have HLEN := Lib.hid hlen
        have HLT := Lib.hid hL.lt
        have HDT := Lib.hid hD.lt
        clear hL hD hFF hlow hW hI hbw hse hcal hlen hnew ho hok2 hho
        go_wp2_with fail
        refine hsy.mono ?_
        rintro e w4 ⟨rfl, hL4, hD4, hm4⟩
        have hop := open_main hD4 k (by omega) (by rw [HLEN.out]; omega) (by omega) HNEW.out l2 HO.out
        have hW4 := HW.out.mod hm4 (S' := fun b => F b ∨ FD b) fun b h => .inl h
        have HB4 : Hid (Below w.heap.size w w4) := Lib.hid (HB.out.trans (hm4.below HB.out.size fun x hx hS => absurd hx (Nat.not_lt.2 (HLOW.out x hS))))
        have HW4 := Lib.hid hW4
        have HD4 := Lib.hid hD4
        have HL4 := Lib.hid hL4.lt
        clear hsy hL4 hD4 hm4 hW4
        go_wp2_with fail
        refine hop.mono ?_
        rintro e w5 ⟨g5, G5, rfl, hL5, hb5, hG5⟩
        have hD5 := HD4.out.below hb5
        have hho5 := lhomes_any hL5 hD5 HOK2.out
        rw [HHO.out] at hho5
        have hW5 := HW4.out.below hb5 (S' := fun b => F b ∨ FD b) fun b h => .inl h
        have HB5 := Lib.hid (HB4.out.trans (hb5.mono HB4.out.size))
        have HS5 : Hid (∀ b, F b ∨ FD b → b < w5.heap.size) := Lib.hid fun b h => by
          have := hb5.size
          rcases h with h | h
          · have := HL4.out b h; omega
          · have := HD4.out.lt b h; omega
        have HW5 := Lib.hid hW5
        clear hop hL5 hD5 hb5 hG5 hW5
        go_wp2_with fail
        refine hho5.mono ?_
        rintro e w6 ⟨v6, rfl, hO6, hb6⟩
        have hA6 := hO6.a HS5.out
        have hW6 := HW5.out.below hb6 (S' := fun b => F b ∨ FD b) fun b h => .inl h
        have hsm := lsame_any w6 _ _ _ _ _ hA6 hW6
        rw [decide_eq_true rfl] at hsm
        obtain ⟨a6, n6, c6, rfl⟩ := hA6.shape
        have HB6 := Lib.hid (HB5.out.trans (hb6.mono HB5.out.size))
        clear hho5 hO6 hb6 hA6 hW6
        go_wp2_with fail
        refine hsm.mono ?_
        rintro e w7 ⟨rfl, hb7⟩
        have HB7 := Lib.hid (HB6.out.trans (hb7.mono HB6.out.size))
        clear hsm hb7
        go_wp2_with (first
          | (go_at_call 16; refine (lives_any _).mono ?_; rintro e w8 ⟨rfl, hb8⟩; have HB8 := Lib.hid (HB7.out.trans (hb8.mono HB7.out.size)); clear hb8)
          | fail)
        go_ret
        exact ⟨rfl, HB8.out⟩
      · have hd1 : decide (i < ds.length) = false := by simp; omega
        obtain ⟨F, FD, l, d, want, hL, hD, hFF, hlow, hW, hI, hbw⟩ := hA
        have hsy := sync_any hL hD hFF
        obtain ⟨hse, hcal, hlen, hnew, l2, ho, hok2, hho⟩ := around_end hI (by omega) (by omega)
        rw [hse] at hsy
        simp only at hsy
        rw [hI.err] at hsy
        obtain ⟨aw, nw, cw, rfl⟩ := hW.shape
        have HW := Lib.hid hW
        have HLOW := Lib.hid hlow
        have HFF := Lib.hid hFF
        have HB := Lib.hid hbw
        have HO := Lib.hid ho
        have HOK2 := Lib.hid hok2
        have HHO := Lib.hid hho
        have HNEW := Lib.hid hnew
        have HLEN := Lib.hid hlen
        have HLT := Lib.hid hL.lt
        have HDT := Lib.hid hD.lt
        clear hL hD hFF hlow hW hI hbw hse hcal hlen hnew ho hok2 hho
        go_wp2_with fail
        refine hsy.mono ?_
        rintro e w4 ⟨rfl, hL4, hD4, hm4⟩
        have hop := open_main hD4 k (by omega) (by rw [HLEN.out]; omega) (by omega) HNEW.out l2 HO.out
        have hW4 := HW.out.mod hm4 (S' := fun b => F b ∨ FD b) fun b h => .inl h
        have HB4 : Hid (Below w.heap.size w w4) := Lib.hid (HB.out.trans (hm4.below HB.out.size fun x hx hS => absurd hx (Nat.not_lt.2 (HLOW.out x hS))))
        have HW4 := Lib.hid hW4
        have HD4 := Lib.hid hD4
        have HL4 := Lib.hid hL4.lt
        clear hsy hL4 hD4 hm4 hW4
        go_wp2_with fail
        refine hop.mono ?_
        rintro e w5 ⟨g5, G5, rfl, hL5, hb5, hG5⟩
        have hD5 := HD4.out.below hb5
        have hho5 := lhomes_any hL5 hD5 HOK2.out
        rw [HHO.out] at hho5
        have hW5 := HW4.out.below hb5 (S' := fun b => F b ∨ FD b) fun b h => .inl h
        have HB5 := Lib.hid (HB4.out.trans (hb5.mono HB4.out.size))
        have HS5 : Hid (∀ b, F b ∨ FD b → b < w5.heap.size) := Lib.hid fun b h => by
          have := hb5.size
          rcases h with h | h
          · have := HL4.out b h; omega
          · have := HD4.out.lt b h; omega
        have HW5 := Lib.hid hW5
        clear hop hL5 hD5 hb5 hG5 hW5
        go_wp2_with fail
        refine hho5.mono ?_
        rintro e w6 ⟨v6, rfl, hO6, hb6⟩
        have hA6 := hO6.a HS5.out
        have hW6 := HW5.out.below hb6 (S' := fun b => F b ∨ FD b) fun b h => .inl h
        have hsm := lsame_any w6 _ _ _ _ _ hA6 hW6
        rw [decide_eq_true rfl] at hsm
        obtain ⟨a6, n6, c6, rfl⟩ := hA6.shape
        have HB6 := Lib.hid (HB5.out.trans (hb6.mono HB5.out.size))
        clear hho5 hO6 hb6 hA6 hW6
        go_wp2_with fail
        refine hsm.mono ?_
        rintro e w7 ⟨rfl, hb7⟩
        have HB7 := Lib.hid (HB6.out.trans (hb7.mono HB6.out.size))
        clear hsm hb7
        go_wp2_with (first
          | (go_at_call 16; refine (lives_any _).mono ?_; rintro e w8 ⟨rfl, hb8⟩; have HB8 := Lib.hid (HB7.out.trans (hb8.mono HB7.out.size)); clear hb8)
          | fail)
        go_ret
        exact ⟨rfl, HB8.out⟩
end Go.Proofs.Ytbkblhoagfonjaa

/- Proved: RedoAround returns true and its arguments read as they did. No condition: of all numbers and calls. -/
namespace Go.Proofs.Ytbkblhoagfonjaa
open Go.ChangeShapes Go.WideShapes Go.ChangeAt Go.RowKit Go.Tn Go.Joins

set_option maxRecDepth 100000 in
theorem around_lifted (os : Os) (started : os.Started) (H : Type) (enc : TypeId × Value → H) :
    ReturnsInHanded {} Try.checked os 4 .any (Rows.redoAroundSpec.pre6 enc Try.prog Try.f4 Rows.redoAroundRow.domain false) (Rows.redoAroundSpec.post enc Try.prog Try.f4 false true false false) := by
  refine returnsInHanded_of_change (C := Try.checked) Try.own started (by kernel_rfl) Try.func4
    (ChangeSpec.witness6 (enc := enc) (C := Try.checked) false ⟨#[], #[.int .i64 0, .slice none 0 0], []⟩ 8 (by kernel_rfl) (by kernel_rfl) (by kernel_rfl) (by kernel_rfl)) ?_
  intro W base args ds gs before hval0 hW hcnd _
  have hval : ∀ (j : Nat) t v, Try.f4.params[j]? = some t → args[j]? = some v → Value.okWide Try.prog W .any base t v := hval0
  have hW' := hW
  obtain ⟨p, q, hA0, hV, rfl, hfz, hnd⟩ := hW
  have hA : DataW.TrodAll enc Try.prog W 0 (fun _ => true) true Try.f4.params.toList args.toList ds p := hA0
  rw [Try.params4] at hA hval
  obtain ⟨v0, vs0, d0, ds0, p0, q0, hargs, rfl, rfl, h0, r0⟩ := trodAll_cons hA
  obtain ⟨v1, vs1, d1, ds1, p1, q1, rfl, rfl, rfl, h1, r1⟩ := trodAll_cons r0
  obtain ⟨rfl, rfl, rfl⟩ := trodAll_nil r1
  obtain rfl : args = #[v0, v1] := by cases args; simp_all
  obtain ⟨rfl, rfl⟩ := trodVars_none hV
  obtain ⟨a0, rfl, rfl, rfl, w0⟩ := open_int Try.underlying3 (hval 0 3 v0 rfl rfl) h0
  obtain ⟨a1, len1, cap1, rfl⟩ := okWide_slice Try.underlying42 (hval 1 42 v1 rfl rfl)
  have k1 := h1
  have lt1 : ∀ x ∈ p1, x.block < W.heap.size := by obtain ⟨m, hm⟩ := k1; exact DataW.trod_lt m _ _ _ hm
  obtain ⟨es, hes⟩ := dos_of h1
  clear hA0 hval0
  refine (around_walk W a0 _ es hes).mono fun e W' ⟨he, bel⟩ => ?_
  subst he
  exact ⟨_, rfl, _, _, _, [], _, [], hW', trodAll_mk1 (shut_bool Try.underlying4 _), (trodAll_cons_mk (shut_int Try.underlying3 w0) (trodAll_cons_mk (Below.trod Try.laidOut (by kernel_rfl) (of_decide_eq_true (by kernel_rfl)) k1 bel lt1) trodAll_mk0)), rfl, bel.frame _, fun h => by cases h⟩

theorem around_holds : Rows.RedoAroundSaid :=
  OpenClaim.holds_of_wide 4 Try.f4 rfl rfl rfl rfl rfl rfl rfl ⟨rfl, rfl, rfl, rfl, rfl⟩ rfl rfl rfl rfl rfl (by kernel_rfl) Try.func4 (by kernel_rfl)
    (of_decide_eq_true (by kernel_rfl)) (by unfold Func.isWrapper; first | (rw [if_pos (by decide +kernel)]; kernel_rfl) | (rw [if_neg (by decide +kernel)]; exact ⟨rfl, rfl⟩))
    (fun os started H enc _ => around_lifted os started H enc)

end Go.Proofs.Ytbkblhoagfonjaa
