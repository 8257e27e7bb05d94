/- The document's Write of a log, walked. -/
import Derived.Test.YtmakpbjknklpiaaGreatMgRpl33
import Derived.Test.YtmakpbjknklpiaaGreatMgRpl18
import Derived.Test.YtmakpbjknklpiaaGreatMgRpl16
import Derived.Test.YtmakpbjknklpiaaGreatMgRpl15
import Derived.Test.YtmakpbjknklpiaaGreatMgRpl24
import Derived.Test.YtmakpbjknklpiaaGreatMgRpl23
/- Pieces of one run, joined: plain; those of a record are such a run. -/
namespace Go.Proofs.YtmakpbjknklpiaaGreat
open Go.RowKit Go.Tn Go.Tn.Bt Go.Tn.Lp Go.Tn.Dk
/-- Pieces of one epoch, counted on, the first marked first, the last marked last. -/
structure RunP (ps : List Pc) (ep ct : Nat) : Prop where
  each : ∀ k q, ps[k]? = some q → q.ep = ep ∧ q.ct = ct + k ∧ q.fi = decide (k = 0) ∧ q.la = decide (k + 1 = ps.length)
  ok : ∀ q ∈ ps, q.ok ∧ ∀ x ∈ q.da, x < 256
def fullB (n k : Nat) (q : Pc) : Prop := q.da.length = 106 ∨ (k + 1 = n ∧ q.da.length < 106 ∧ (0 < q.da.length ∨ k = 0))
theorem full_at {ep ct : Nat} {bs : List Nat} {k : Nat} (hk : k < cutN bs) : fullB (cutN bs) k (pieceAt ep ct bs k) := by
  unfold fullB pieceAt
  simp only [List.length_take, List.length_drop]
  unfold cutN at *
  omega
theorem rec_len {ps : List Pc} (hf : ∀ k q, ps[k]? = some q → fullB ps.length k q) : ∀ k, k < ps.length → (recOf (ps.take k)).length = 106 * k
  | 0, _ => by rw [List.take_zero]; rfl
  | k + 1, hk => by
    have hq : ps[k]? = some (ps[k]'(by omega)) := List.getElem?_eq_getElem (by omega)
    rw [recOf_take ps k _ hq, List.length_append, rec_len hf k (by omega)]
    have := hf k _ hq
    unfold fullB at this
    omega
theorem rec_split {ps : List Pc} {k : Nat} {q : Pc} (hq : ps[k]? = some q) : recOf ps = recOf (ps.take k) ++ (q.da ++ recOf (ps.drop (k + 1))) := by
  have hk := (List.getElem?_eq_some_iff.1 hq).1
  have e : recOf ps = recOf (ps.take (k + 1)) ++ recOf (ps.drop (k + 1)) := by
    unfold recOf
    rw [← List.flatMap_append, List.take_append_drop]
  rw [e, recOf_take ps k q hq, List.append_assoc]
theorem run_cut {ps : List Pc} {ep ct : Nat} (h : RunP ps ep ct) (h0 : 0 < ps.length) (hf : ∀ k q, ps[k]? = some q → fullB ps.length k q) : cutN (recOf ps) = ps.length ∧ ps = cutL ep ct (recOf ps) := by
  have hlast : ps[ps.length - 1]? = some (ps[ps.length - 1]'(by omega)) := List.getElem?_eq_getElem (by omega)
  generalize (ps[ps.length - 1]'(by omega)) = z at hlast
  have hl1 := rec_len hf (ps.length - 1) (by omega)
  have hsp := rec_split hlast
  have hdn : ps.drop (ps.length - 1 + 1) = [] := List.drop_of_length_le (by omega)
  have hrl : (recOf ps).length = 106 * (ps.length - 1) + z.da.length := by
    rw [hsp, hdn, List.length_append, hl1, List.length_append]
    simp [recOf]
  have hz := hf _ _ hlast
  have hcn : cutN (recOf ps) = ps.length := by
    unfold cutN
    unfold fullB at hz
    rw [hrl]
    omega
  refine ⟨hcn, List.ext_getElem? fun k => ?_⟩
  by_cases hk : k < ps.length
  · have hq : ps[k]? = some (ps[k]'hk) := List.getElem?_eq_getElem hk
    generalize (ps[k]'hk) = q at hq
    have hcl : (cutL ep ct (recOf ps))[k]? = some (pieceAt ep ct (recOf ps) k) := by
      unfold cutL
      rw [List.getElem?_map, List.getElem?_range (by rw [hcn]; exact hk)]
      rfl
    rw [hq, hcl]
    obtain ⟨e1, e2, e3, e4⟩ := h.each k q hq
    have hda : ((recOf ps).drop (106 * k)).take 106 = q.da := by
      rw [rec_split hq, List.drop_append_of_le_length (by rw [rec_len hf k hk]; exact Nat.le_refl _), List.drop_of_length_le (by rw [rec_len hf k hk]; exact Nat.le_refl _), List.nil_append]
      rcases hf k q hq with h1 | ⟨h1, h2, -⟩
      · rw [List.take_append_of_le_length (by omega), List.take_of_length_le (by omega)]
      · rw [h1, List.drop_of_length_le (Nat.le_refl _)]
        have : recOf ([] : List Pc) = [] := rfl
        rw [this, List.append_nil, List.take_of_length_le (by omega)]
    unfold pieceAt
    rw [hda, hcn, ← e1, ← e2, ← e3, ← e4]
  · rw [List.getElem?_eq_none (by omega), List.getElem?_eq_none (by rw [cutL_len, hcn]; omega)]
theorem join_yes {ps : List Pc} {ep ct : Nat} (h : RunP ps ep ct) (h0 : 0 < ps.length) (hf : ∀ k q, ps[k]? = some q → fullB ps.length k q) (hl : (recOf ps).length ≤ 8192) : joinB ps = some (recOf ps) := by
  obtain ⟨hcn, hcl⟩ := run_cut h h0 hf
  have hlast : ps[ps.length - 1]? = some (ps[ps.length - 1]'(by omega)) := List.getElem?_eq_getElem (by omega)
  have h2 := (h.each _ _ hlast).2.1
  have h1 := (h.each _ _ hlast).1
  have h3 := (h.ok _ (List.mem_of_getElem? hlast)).1
  refine join_cut (ep := ep) (ct := ct) ?_
  unfold cutB
  rw [if_neg, if_neg (by omega)]
  · exact congrArg Except.ok hcl.symm
  · have q1 := h3.1
    have q2 := h3.2.1
    rw [hcn]
    omega
theorem join_big {ps : List Pc} (hl : 8192 < (recOf ps).length) : joinB ps = none := by
  cases ps with
  | nil => rfl
  | cons p r =>
    unfold joinB
    simp only
    cases hc : cutB p.ep p.ct (recOf (p :: r)) with
    | error _ => rfl
    | ok want =>
      exfalso
      unfold cutB at hc
      split at hc
      · cases hc
      · cases hc
theorem join_part {ps : List Pc} {k : Nat} {q : Pc} (hq : ps[k]? = some q) (hn : ¬ fullB ps.length k q) : joinB ps = none := by
  cases ps with
  | nil => rfl
  | cons p r =>
    unfold joinB
    simp only
    cases hc : cutB p.ep p.ct (recOf (p :: r)) with
    | error _ => rfl
    | ok want =>
      simp only
      refine if_neg fun e => hn ?_
      have hw : want = cutL p.ep p.ct (recOf (p :: r)) := by
        unfold cutB at hc
        split at hc
        · cases hc
        · split at hc
          · cases hc
          · cases hc; rfl
      rw [hw] at e
      have hl : (p :: r).length = cutN (recOf (p :: r)) := by
        have := congrArg List.length e
        rw [cutL_len] at this
        exact this.symm
      have hk := (List.getElem?_eq_some_iff.1 hq).1
      rw [hl] at hk
      have hqe : (cutL p.ep p.ct (recOf (p :: r)))[k]? = some (pieceAt p.ep p.ct (recOf (p :: r)) k) := by
        unfold cutL
        rw [List.getElem?_map, List.getElem?_range hk]
        rfl
      rw [e, hq] at hqe
      rw [Option.some.inj hqe, hl]
      exact full_at hk
/-- A run that is not whole yet. -/
structure RunQ (ps : List Pc) (x : Nat) : Prop where
  each : ∀ k q, ps[k]? = some q → q.ct = x + k ∧ q.fi = decide (k = 0) ∧ q.la = false
  ep : ∀ (k : Nat) (q p0 : Pc) (r : List Pc), ps[k]? = some q → ps = p0 :: r → q.ep = p0.ep
theorem RunQ.whole {ps : List Pc} {x : Nat} {q : Pc} (h : RunQ ps x) (h1 : q.ct = x + ps.length) (h2 : q.fi = decide (ps.length = 0)) (h3 : q.la = true) (h4 : ∀ p0 r, ps = p0 :: r → q.ep = p0.ep) (hok : ∀ y ∈ ps ++ [q], y.ok ∧ ∀ z ∈ y.da, z < 256) : ∃ ep, RunP (ps ++ [q]) ep x := by
  have key : ∀ k y, (ps ++ [q])[k]? = some y → (k < ps.length ∧ ps[k]? = some y) ∨ (k = ps.length ∧ y = q) := fun k y hy => by
    by_cases hk : k < ps.length
    · rw [List.getElem?_append_left hk] at hy
      exact .inl ⟨hk, hy⟩
    · rw [List.getElem?_append_right (by omega)] at hy
      have hk0 : k - ps.length = 0 := by
        have := (List.getElem?_eq_some_iff.1 hy).1
        simp at this
        omega
      rw [hk0] at hy
      exact .inr ⟨by omega, (by simpa using hy.symm)⟩
  obtain ⟨ep, hq, hep⟩ : ∃ ep, q.ep = ep ∧ ∀ (k : Nat) (y : Pc), ps[k]? = some y → y.ep = ep := by
    cases hps : ps with
    | nil => exact ⟨q.ep, rfl, fun k y hy => by simp at hy⟩
    | cons p0 r => exact ⟨p0.ep, h4 p0 r hps, fun k y hy => h.ep k y p0 r (by rw [hps]; exact hy) hps⟩
  refine ⟨ep, ⟨fun k y hy => ?_, hok⟩⟩
  rcases key k y hy with ⟨hk, hy⟩ | ⟨rfl, rfl⟩
  · obtain ⟨e1, e2, e3⟩ := h.each k y hy
    refine ⟨hep k y hy, e1, e2, ?_⟩
    rw [e3, List.length_append]
    exact (decide_eq_false (by simp; omega)).symm
  · refine ⟨hq, h1, h2, ?_⟩
    rw [h3, List.length_append]
    exact (decide_eq_true (by simp)).symm
theorem recGo_run (d : Dsk) (n x floor : Nat) : ∀ (fuel : Nat) (acc : List Pc), RunQ acc x → (∀ c q, pieceB d n c = some q → q.ok ∧ ∀ z ∈ q.da, z < 256) → (∀ y ∈ acc, y.ok ∧ ∀ z ∈ y.da, z < 256) → (∀ p0 r, acc = p0 :: r → floor ≤ p0.ep) → recGo d n x floor fuel acc = [] ∨ ∃ ep, RunP (recGo d n x floor fuel acc) ep x ∧ floor ≤ ep
  | 0, acc, _, _, _, _ => .inl rfl
  | fuel + 1, acc, h, hP, hok, hfl => by
    by_cases hg : ∃ q, pieceB d n (x + acc.length) = some q ∧ q.fi = decide (acc.length = 0) ∧ floor ≤ q.ep ∧ ∀ p0 r, acc = p0 :: r → q.ep = p0.ep
    · obtain ⟨q, h1, h2, h3, h4⟩ := hg
      have hct := (pieceB_get h1).2
      rw [rec_good h1 h2 h3 h4]
      have hok2 : ∀ y ∈ acc ++ [q], y.ok ∧ ∀ z ∈ y.da, z < 256 := fun y hy => by
        rcases List.mem_append.1 hy with hy | hy
        · exact hok y hy
        · rw [List.mem_singleton.1 hy]
          exact hP _ q h1
      cases hla : q.la with
      | true =>
        rw [if_pos rfl]
        obtain ⟨ep, hr⟩ := h.whole hct h2 hla h4 hok2
        refine .inr ⟨ep, hr, ?_⟩
        have hq : (acc ++ [q])[acc.length]? = some q := by simp
        rw [← (hr.each _ _ hq).1]
        exact h3
      | false =>
        rw [if_neg (by decide)]
        refine recGo_run d n x floor fuel (acc ++ [q]) ⟨fun k y hy => ?_, fun k y p0 r hy e => ?_⟩ hP hok2 fun p0 r e => ?_
        · by_cases hk : k < acc.length
          · rw [List.getElem?_append_left hk] at hy
            exact h.each k y hy
          · rw [List.getElem?_append_right (by omega)] at hy
            have hk0 : k - acc.length = 0 := by
              have := (List.getElem?_eq_some_iff.1 hy).1
              simp at this
              omega
            rw [hk0] at hy
            obtain rfl : q = y := by simpa using hy
            have hke : k = acc.length := by omega
            rw [hke]
            exact ⟨hct, h2, hla⟩
        · cases hacc : acc with
          | nil =>
            rw [hacc] at hy e
            have he := List.cons.inj e
            have hy' := List.mem_of_getElem? hy
            simp at hy'
            rw [hy', ← he.1]
          | cons p1 r1 =>
            rw [hacc] at e
            have he : p1 = p0 := by simpa using (List.cons.inj e).1
            by_cases hk : k < acc.length
            · rw [List.getElem?_append_left hk] at hy
              rw [h.ep k y p1 r1 hy hacc, he]
            · rw [List.getElem?_append_right (by omega)] at hy
              have hy' := List.mem_of_getElem? hy
              simp at hy'
              rw [hy', h4 p1 r1 hacc, he]
        · cases hacc : acc with
          | nil =>
            rw [hacc] at e
            have he := (List.cons.inj e).1
            rw [← he]
            exact h3
          | cons p1 r1 =>
            rw [hacc] at e
            have he : p1 = p0 := by simpa using (List.cons.inj e).1
            rw [← he]
            exact hfl p1 r1 hacc
    · exact .inl (rec_bad (fun q hq hh => hg ⟨q, hq, hh⟩) hfl)
/-- A record's pieces are a run. -/
theorem record_run {l : Lg} {d : Dsk} (hd : d.ok) (hn : 0 < l.n) (hnd : l.n + 2 ≤ d.L.length) (floor : Nat) : l.recordB d floor = [] ∨ ∃ ep, RunP (l.recordB d floor) ep l.next ∧ floor ≤ ep :=
  recGo_run d l.n l.next floor l.free [] ⟨fun k q h => by simp at h, fun k q p0 r h => by simp at h⟩ (fun c q h => pieceB_ok hd hn hnd h) (fun y hy => by cases hy) fun p0 r e => by cases e
end Go.Proofs.YtmakpbjknklpiaaGreat

/- The document's Join, walked. -/
namespace Go.Proofs.YtmakpbjknklpiaaGreat
open Go.RowKit Go.Tn Go.Tn.Bt Go.Tn.Lp Go.Tn.Dk
set_option maxRecDepth 20000 in
set_option maxHeartbeats 8000000 in
theorem yjoin_any (w : World) (v : Value) (ps : List Pc) (h : PcsI w v ps) (hr : ps = [] ∨ ∃ ep ct, RunP ps ep ct) (hn : ps.length ≤ 4096) : Calls Tryz.prog 41 #[v] w fun e w' => Below w.heap.size w w' ∧ JoinR w.heap.size w' (joinB ps) e := by
  obtain ⟨xs, hxs, hL, hDt⟩ := h
  have hxl : xs.length = ps.length := by rw [← hxs]; simp
  obtain ⟨ao, cap, rfl, h1, h2, h3⟩ := hL
  rw [hxl] at h1 h3 ⊢
  unfold maxLen at h2
  have hn63 : (ps.length : Int) ≤ 4096 := by omega
  have HXS := Lib.hid hxs
  have HXL := Lib.hid hxl
  have HDT := Lib.hid hDt
  have HR := Lib.hid hr
  have H3 := Lib.hid h3
  clear hxs hxl hDt hr h3
  go_enter Tryz.func41, Tryz.ntmps41
  go_wp2_with fail
  go_loopw [4, 5, 6, 7] (fun av iv _ _ wi => ∃ k : Nat, k ≤ ps.length ∧ iv = .int .i64 k ∧ LOut en8 1 5 w.heap.size wi av (recOf (ps.take k)) ∧ (recOf (ps.take k)).length ≤ 106 * k ∧ (∀ j q, j < k → ps[j]? = some q → fullB ps.length j q) ∧ Below w.heap.size w wi) (fun _ iv _ _ _ => ps.length - (intOf iv).toNat)
  case atStart => exact ⟨0, Nat.zero_le _, rfl, LOut.nil (Nat.le_refl _), Nat.le_refl _, (fun j q hj => absurd hj (Nat.not_lt_zero _)), Below.refl _ _⟩
  case round =>
    obtain ⟨k, hk, rfl, hO, hrl, hfu, hb⟩ := hrel
    by_cases hkl : k < ps.length
    · have hdk : decide (k < ps.length) = true := by simp [hkl]
      have hkl' : (k : Int) < (ps.length : Int) := by omega
      obtain ⟨x, hx⟩ : ∃ x, xs[k]? = some x := ⟨_, List.getElem?_eq_getElem (by rw [HXL.out]; exact hkl)⟩
      obtain ⟨x0, hx0⟩ : ∃ x, xs[0]? = some x := ⟨_, List.getElem?_eq_getElem (by rw [HXL.out]; omega)⟩
      have hpx : ps[k]? = some x.1 := by rw [← HXS.out, List.getElem?_map, hx]; rfl
      have hpx0 : ps[0]? = some x0.1 := by rw [← HXS.out, List.getElem?_map, hx0]; rfl
      obtain ⟨ep, ct, hrun⟩ : ∃ ep ct, RunP ps ep ct := by
        rcases HR.out with e | e
        · rw [e] at hkl; exact absurd hkl (Nat.not_lt_zero _)
        · exact e
      obtain ⟨r1, r2, r3, r4⟩ := hrun.each k _ hpx
      obtain ⟨r5, r6, -, -⟩ := hrun.each 0 _ hpx0
      obtain ⟨⟨rk1, rk2, rk3⟩, -⟩ := hrun.ok _ (List.mem_of_getElem? hpx)
      have hdx := HDT.out x (List.mem_of_getElem? hx)
      have hrt := recOf_take ps k _ hpx
      obtain ⟨b, off, rfl, hbl, hcells⟩ := H3.out (by omega)
      have hlk := (hcells k x hx).below' hb hbl
      have hl0 := (hcells 0 x0 hx0).below' hb hbl
      obtain ⟨⟨epk, ck, f0, l0, da⟩, ⟨da0, dn, dc⟩⟩ := x
      obtain ⟨⟨ep0, ct0, f00, l00, d00⟩, s00⟩ := x0
      simp only at r1 r2 r3 r4 r5 r6 rk1 rk2 rk3 hrt hpx
      rw [Nat.add_zero] at r6
      subst r1 r5 r6
      have HLK : Hid (Lies wr b (off + k * 5) #[.int .u64 (ep0 : Nat), .int .u64 (ck : Nat), .bool f0, .bool l0, .slice da0 dn dc]) := Lib.hid hlk
      have hc0 : wr.cell? ⟨b, off, none⟩ = some (.int .u64 (ep0 : Nat)) := by
        have := hl0 0 (by simp [enPc])
        simpa [enPc] using this
      have hc1 : wr.cell? ⟨b, off + 1, none⟩ = some (.int .u64 (ct0 : Nat)) := by
        have := hl0 1 (by simp [enPc])
        simpa [enPc] using this
      have hba : Below wr.heap.size wr (wr.alloc (.cells #[.int .u64 (ep0 : Nat), .int .u64 (ck : Nat), .bool f0, .bool l0, .slice da0 dn dc] 93)) := (Below.refl _ _).alloc (Nat.le_refl _) _
      have hX : (wr.alloc (.cells #[.int .u64 (ep0 : Nat), .int .u64 (ck : Nat), .bool f0, .bool l0, .slice da0 dn dc] 93)).heap[wr.heap.size]? = some (.cells #[.int .u64 (ep0 : Nat), .int .u64 (ck : Nat), .bool f0, .bool l0, .slice da0 dn dc] 93 (0, 0)) := heap_alloc_at
      have hdx1 := (LSl.below (w := w) hdx (hb.trans (hba.mono hb.size)|> fun h => (hb.mono (Nat.le_refl _)).trans (hba.mono hb.size)))
      have hbw : b < wr.heap.size := Nat.lt_of_lt_of_le hbl hb.size
      have hc0' := (hba.cell (p := ⟨b, off, none⟩) hbw).trans hc0
      have hc1' := (hba.cell (p := ⟨b, off + 1, none⟩) hbw).trans hc1
      have hO1 := hO.below hba
      have hb1 : Below w.heap.size w (wr.alloc (.cells #[.int .u64 (ep0 : Nat), .int .u64 (ck : Nat), .bool f0, .bool l0, .slice da0 dn dc] 93)) := hb.trans (hba.mono hb.size)
      obtain ⟨xo, xcap, hxv, q1, q2, -⟩ := id hdx1
      obtain ⟨rfl, rfl, rfl⟩ : da0 = xo ∧ dn = da.length ∧ dc = xcap := by simpa [sv] using hxv
      obtain ⟨F, hF⟩ : ∃ F : Bool, (F = true ↔ fullB ps.length k ⟨ep0, ck, f0, l0, da⟩) := by
        exact ⟨@decide _ (Classical.propDecidable (fullB ps.length k ⟨ep0, ck, f0, l0, da⟩)), @decide_eq_true_iff _ (Classical.propDecidable _)⟩
      have HR2 : Hid (ck = ct0 + k) := Lib.hid r2
      have HR3 := Lib.hid r3
      have HR4 := Lib.hid r4
      have hckb : (ck : Int) ≤ 1099511627775 := by omega
      have hepb : (ep0 : Int) ≤ 16777215 := by omega
      obtain ⟨xb, hxb⟩ : ∃ xb, wr.heap.size = xb := ⟨_, rfl⟩
      obtain ⟨oa, on, oc, rfl⟩ := LOut.shape hO
      have HO1 := Lib.hid hO1
      have HB1 := Lib.hid hb1
      have HX := Lib.hid hX
      have HDX := Lib.hid hdx1
      have HF := Lib.hid hF
      have HFU := Lib.hid hfu
      have HRT := Lib.hid hrt
      have HRL := Lib.hid hrl
      have HPX := Lib.hid hpx
      have HC0 := Lib.hid hc0'
      have HC1 := Lib.hid hc1'
      have hsz : (recOf (ps.take k)).length + da.length ≤ 10000000000 := by omega
      have HRUN := Lib.hid hrun
      have hd106 : (da.length : Int) ≤ 106 := by omega
      have hxw := lt_of_block hX
      rw [hxb] at hxw
      clear hba hX hdx1 hdx hc0 hc1 hc0' hc1' hO1 hO hb1 hb hlk hl0 hcells hx hx0 hpx hpx0 hrt hrl hfu hF hxv hrun r2 r3 r4 rk1 rk2
      go_upto_region 6 with (first
        | ((with_reducible refine wpList_loadA (aggXP (ep0 : Nat) (ck : Nat) f0 l0 (.slice da0 da.length dc)) HLK.out ?_ ?_); rfl; go_frame)
        | ((with_reducible refine wpList_storeA_new (aggXP _ _ _ _ _) rfl (oneXP _ _ _ _ _ _ _) ?_ ?_ ?_); rfl; rfl; go_frame)
        | fail)
      have hxx := HX.out
      rw [hxb] at hxx
      clear hxb HX
      have HX := Lib.hid hxx
      generalize wr.alloc _ = w1 at *
      have z4 := cell_of (o := 4) hxx rfl
      clear hxx
      go_cut [7] (fun s wx => s = .bool F ∧ wx = w1)
      case first =>
        have hFo := HF.out
        unfold fullB at hFo
        simp only at hFo
        by_cases h106 : da.length = 106
        · have e1 : (((da.length : Nat) : Int) == 106) = true := by rw [beq_iff_eq]; omega
          have hb : F = true := hFo.2 (.inl h106)
          subst hb
          clear h106 hFo
          go_wp2
          go_meet
          case rel => exact ⟨rfl, rfl⟩
        · have e1 : (((da.length : Nat) : Int) == 106) = false := by rw [beq_eq_false_iff_ne]; omega
          by_cases hkn : k + 1 = ps.length
          rotate_left
          · have e2 : ((k : Int) == (ps.length : Int) - 1) = false := by rw [beq_eq_false_iff_ne]; omega
            have hb : F = false := by
              cases F with
              | false => rfl
              | true => exact absurd (hFo.1 rfl) (by omega)
            subst hb
            clear h106 hFo hkn
            go_wp2
            go_meet
            case rel => exact ⟨rfl, rfl⟩
          · have e2 : ((k : Int) == (ps.length : Int) - 1) = true := by rw [beq_iff_eq]; omega
            have e3 : decide (((da.length : Nat) : Int) < 106) = true := decide_eq_true (by omega)
            have e3' : decide (da.length < 106) = true := decide_eq_true (by omega)
            by_cases hpos : 0 < da.length
            · have e4 : decide ((0 : Int) < ((da.length : Nat) : Int)) = true := decide_eq_true (by omega)
              have e4' : decide (0 < da.length) = true := decide_eq_true hpos
              have hb : F = true := hFo.2 (.inr ⟨hkn, by omega, .inl hpos⟩)
              subst hb
              clear h106 hFo hkn hpos
              go_wp2
              go_meet
              case rel => exact ⟨rfl, rfl⟩
            · have e4 : decide ((0 : Int) < ((da.length : Nat) : Int)) = false := decide_eq_false (by omega)
              have e4' : decide (0 < da.length) = false := decide_eq_false hpos
              by_cases hk0 : k = 0
              · have e5 : ((k : Int) == 0) = true := by rw [beq_iff_eq]; omega
                have hb : F = true := hFo.2 (.inr ⟨hkn, by omega, .inr hk0⟩)
                subst hb
                clear h106 hFo hkn hpos hk0
                go_wp2
                go_meet
                case rel => exact ⟨rfl, rfl⟩
              · have e5 : ((k : Int) == 0) = false := by rw [beq_eq_false_iff_ne]; omega
                have hb : F = false := by
                  cases F with
                  | false => rfl
                  | true => exact absurd (hFo.1 rfl) (by omega)
                subst hb
                clear h106 hFo hkn hpos hk0
                go_wp2
                go_meet
                case rel => exact ⟨rfl, rfl⟩
      case rest =>
      obtain ⟨rfl, hw⟩ := hcut
      obtain rfl := hw.symm
      clear hw
      go_upto_region 7 with fail
      go_cut [103] (fun s wx => s = .bool (!F) ∧ wx = w1.drew)
      case first =>
        have hxx := HX.out
        have hS : w1.drew.cell? ⟨xb, 0, none⟩ = some (.int .u64 (ep0 : Nat)) ∧ w1.drew.cell? ⟨xb, 1, none⟩ = some (.int .u64 (ck : Nat)) ∧ w1.drew.cell? ⟨xb, 2, none⟩ = some (.bool f0) ∧ w1.drew.cell? ⟨xb, 3, none⟩ = some (.bool l0) ∧ w1.drew.cell? ⟨b, off, none⟩ = some (.int .u64 (ep0 : Nat)) ∧ w1.drew.cell? ⟨b, off + 1, none⟩ = some (.int .u64 (ct0 : Nat)) :=
          ⟨cell_of (o := 0) hxx rfl, cell_of (o := 1) hxx rfl, cell_of (o := 2) hxx rfl, cell_of (o := 3) hxx rfl, HC0.out, HC1.out⟩
        have r2 := HR2.out
        have r3 := HR3.out
        have r4 := HR4.out
        have e1 : decide ((16777215 : Int) < (ep0 : Int)) = false := decide_eq_false (by omega)
        have e2 : decide ((1099511627775 : Int) < (ck : Int)) = false := decide_eq_false (by omega)
        have e3 : decide ((ck : Int) < (ct0 : Int)) = false := decide_eq_false (by omega)
        have e3' : decide (ck < ct0) = false := decide_eq_false (by omega)
        have e4 : IntKind.u64.wrap ((ck : Int) - (ct0 : Int)) = (k : Int) := by rw [IntWalk.u64_in _ (by omega)]; omega
        have e5 : IntKind.u64.wrap ((k : Nat) : Int) = ((k : Nat) : Int) := IntWalk.u64_in _ (by omega)
        have e6 : ((k : Int) == 0) = f0 := by rw [r3, Bool.eq_iff_iff]; simp
        have e7 : ((k : Int) == (ps.length : Int) - 1) = l0 := by rw [r4, Bool.eq_iff_iff]; simp; omega
        have e8 : IntKind.i64.wrap ((ps.length : Int) - 1) = (ps.length : Int) - 1 := IntWalk.i64_in _ (by omega)
        have hp0 : (0 : Int) < (ps.length : Int) := by omega
        have hp0' : 0 < ps.length := by omega
        clear hxx z4 r2 r3 r4
        refine wp_region_g (fun w' => w'.cell? ⟨xb, 0, none⟩ = some (.int .u64 (ep0 : Nat)) ∧ w'.cell? ⟨xb, 1, none⟩ = some (.int .u64 (ck : Nat)) ∧ w'.cell? ⟨xb, 2, none⟩ = some (.bool f0) ∧ w'.cell? ⟨xb, 3, none⟩ = some (.bool l0) ∧ w'.cell? ⟨b, off, none⟩ = some (.int .u64 (ep0 : Nat)) ∧ w'.cell? ⟨b, off + 1, none⟩ = some (.int .u64 (ct0 : Nat))) [(0, 1), (1, 0), (2, 1), (3, 1), (4, 1), (5, 0), (6, 1), (7, 1), (8, 1), (9, 0), (10, 1), (11, 1), (12, 1), (13, 1), (14, 0), (15, 1), (16, 1), (17, 1), (18, 1), (19, 0), (20, 1), (21, 1), (22, 1), (23, 0), (24, 1), (25, 1), (26, 1), (27, 1), (28, 0), (29, 1), (30, 1), (31, 1), (32, 0), (33, 1), (34, 1), (35, 1), (36, 1), (37, 1), (38, 1), (39, 1), (40, 0), (41, 1), (42, 1), (43, 1), (44, 1), (45, 1), (46, 1), (47, 0), (48, 1), (49, 1), (50, 1), (51, 1), (52, 1), (53, 1), (54, 1), (55, 1), (56, 1), (57, 1), (58, 1)] (by kernel_rfl) (by kernel_rfl) (by intro d v c a w h; cases d <;> exact h) ?_
        iterate 1 (refine g_take rfl rfl (fun K hK => ?_); go_simp; refine hK _ ?_; clear hK K)
        refine g_read rfl rfl hS (fun w' h => exec_load1 ⟨⟨_, Tryz.underlying49, rfl⟩⟩ rfl h.1) ?_
        iterate 2 (refine g_take rfl rfl (fun K hK => ?_); go_simp; refine hK _ ?_; clear hK K)
        iterate 1 (refine g_take rfl rfl (fun K hK => ?_); go_simp; refine hK _ ?_; clear hK K)
        refine g_read rfl rfl hS (fun w' h => exec_load1 ⟨⟨_, Tryz.underlying49, rfl⟩⟩ rfl h.1) ?_
        iterate 3 (refine g_take rfl rfl (fun K hK => ?_); go_simp; refine hK _ ?_; clear hK K)
        refine g_read rfl rfl hS (fun w' h => exec_load1 ⟨⟨_, Tryz.underlying49, rfl⟩⟩ rfl h.2.2.2.2.1) ?_
        iterate 1 (refine g_take rfl rfl (fun K hK => ?_); go_simp; refine hK _ ?_; clear hK K)
        iterate 2 (refine g_take rfl rfl (fun K hK => ?_); go_simp; refine hK _ ?_; clear hK K)
        iterate 1 (refine g_take rfl rfl (fun K hK => ?_); go_simp; refine hK _ ?_; clear hK K)
        refine g_read rfl rfl hS (fun w' h => exec_load1 ⟨⟨_, Tryz.underlying49, rfl⟩⟩ rfl h.2.1) ?_
        iterate 1 (refine g_take rfl rfl (fun K hK => ?_); go_simp; refine hK _ ?_; clear hK K)
        iterate 2 (refine g_take rfl rfl (fun K hK => ?_); go_simp; refine hK _ ?_; clear hK K)
        iterate 1 (refine g_take rfl rfl (fun K hK => ?_); go_simp; refine hK _ ?_; clear hK K)
        refine g_read rfl rfl hS (fun w' h => exec_load1 ⟨⟨_, Tryz.underlying49, rfl⟩⟩ rfl h.2.1) ?_
        iterate 3 (refine g_take rfl rfl (fun K hK => ?_); go_simp; refine hK _ ?_; clear hK K)
        refine g_read rfl rfl hS (fun w' h => exec_load1 ⟨⟨_, Tryz.underlying49, rfl⟩⟩ rfl h.2.2.2.2.2) ?_
        iterate 1 (refine g_take rfl rfl (fun K hK => ?_); go_simp; refine hK _ ?_; clear hK K)
        iterate 2 (refine g_take rfl rfl (fun K hK => ?_); go_simp; refine hK _ ?_; clear hK K)
        iterate 1 (refine g_take rfl rfl (fun K hK => ?_); go_simp; refine hK _ ?_; clear hK K)
        refine g_read rfl rfl hS (fun w' h => exec_load1 ⟨⟨_, Tryz.underlying49, rfl⟩⟩ rfl h.2.1) ?_
        iterate 3 (refine g_take rfl rfl (fun K hK => ?_); go_simp; refine hK _ ?_; clear hK K)
        refine g_read rfl rfl hS (fun w' h => exec_load1 ⟨⟨_, Tryz.underlying49, rfl⟩⟩ rfl h.2.2.2.2.2) ?_
        iterate 4 (refine g_take rfl rfl (fun K hK => ?_); go_simp; refine hK _ ?_; clear hK K)
        iterate 2 (refine g_take rfl rfl (fun K hK => ?_); go_simp; refine hK _ ?_; clear hK K)
        iterate 1 (refine g_take rfl rfl (fun K hK => ?_); go_simp; refine hK _ ?_; clear hK K)
        refine g_read rfl rfl hS (fun w' h => exec_load1 ⟨⟨_, Tryz.underlying4, rfl⟩⟩ rfl h.2.2.1) ?_
        iterate 3 (refine g_take rfl rfl (fun K hK => ?_); go_simp; refine hK _ ?_; clear hK K)
        iterate 2 (refine g_take rfl rfl (fun K hK => ?_); go_simp; refine hK _ ?_; clear hK K)
        iterate 1 (refine g_take rfl rfl (fun K hK => ?_); go_simp; refine hK _ ?_; clear hK K)
        refine g_read rfl rfl hS (fun w' h => exec_load1 ⟨⟨_, Tryz.underlying4, rfl⟩⟩ rfl h.2.2.2.1) ?_
        iterate 6 (refine g_take rfl rfl (fun K hK => ?_); go_simp; refine hK _ ?_; clear hK K)
        iterate 2 (refine g_take rfl rfl (fun K hK => ?_); go_simp; refine hK _ ?_; clear hK K)
        iterate 2 (refine g_take rfl rfl (fun K hK => ?_); go_simp; refine hK _ ?_; clear hK K)
        iterate 1 (refine g_take rfl rfl (fun K hK => ?_); go_simp; refine hK _ ?_; clear hK K)
        refine g_nil ?_
        clear hS
        go_wp2
        go_meet
        case rel => exact ⟨rfl, rfl⟩
      case rest =>
      obtain ⟨rfl, hw⟩ := hcut
      subst hw
      cases F with
      | false =>
        have hno : joinB ps = none := join_part HPX.out fun e => by have := HF.out.2 e; cases this
        have HNO := Lib.hid hno
        clear hno z4
        go_wp2
        go_ret2
        refine ⟨HB1.out.drew, ?_⟩
        rw [HNO.out]
        rfl
      | true =>
        have hz4 : w1.drew.cell? ⟨xb, 4, none⟩ = some (.slice da0 da.length dc) := z4
        have hO2 := HO1.out.below (Below.refl _ w1).drew
        have hD2 := HDX.out.below (Below.refl _ w1).drew
        have HO2 := Lib.hid hO2
        have HD2 := Lib.hid hD2
        have HBD := Lib.hid HB1.out.drew
        obtain ⟨wd, hwd⟩ : ∃ wd, w1.drew = wd := ⟨_, rfl⟩
        rw [hwd] at hz4 HO2 HD2 HBD ⊢
        clear hwd hO2 hD2 z4
        go_wp2_with (first
          | ((with_reducible refine wpList_appendMX el8 HO2.out HD2.out hsz ?_ ?_ ?_); rfl; rfl; (intro v9 w9 hO9 hb9 hg9; obtain ⟨a9, n9, c9, rfl⟩ := LOut.shape hO9; have HO9 := Lib.hid hO9; have HB9 := Lib.hid hb9; clear hO9 hb9 hg9 hz4); go_frame)
          | fail)
        go_roundw
        case rel =>
          refine ⟨k + 1, by omega, by go_num, by rw [HRT.out]; exact HO9.out, ?_, fun j q hj hq => ?_, HBD.out.trans HB9.out⟩
          · rw [HRT.out, List.length_append]
            have := HRL.out
            omega
          · by_cases hjk : j < k
            · exact HFU.out j q hjk hq
            · obtain rfl : j = k := by omega
              rw [HPX.out] at hq
              rw [← Option.some.inj hq]
              exact HF.out.1 rfl
        case measure => simp [intOf]; omega
    · obtain rfl : k = ps.length := by omega
      have hdk : decide (ps.length < ps.length) = false := by simp
      rw [List.take_length] at hO hrl
      obtain ⟨oa, on, oc, rfl⟩ := LOut.shape hO
      obtain ⟨_, _, hov, _⟩ := hO.sl el8.len
      obtain ⟨rfl, rfl, rfl⟩ : oa = _ ∧ on = (recOf ps).length ∧ oc = _ := by simpa using hov
      have HO := Lib.hid hO
      have HB := Lib.hid hb
      have HFU := Lib.hid hfu
      have hr63 : ((recOf ps).length : Int) ≤ 500000 := by omega
      clear hO hb hfu hov
      by_cases h0 : ps.length = 0
      · have hnil : ps = [] := List.eq_nil_of_length_eq_zero h0
        have hno : joinB ps = none := by rw [hnil]; rfl
        have e0 : ((ps.length : Int) == 0) = true := by rw [beq_iff_eq]; omega
        have HNO := Lib.hid hno
        clear hno hnil h0
        go_wp2
        go_ret2
        refine ⟨HB.out, ?_⟩
        rw [HNO.out]
        rfl
      · have e0 : ((ps.length : Int) == 0) = false := by rw [beq_eq_false_iff_ne]; omega
        by_cases hbig : 8192 < (recOf ps).length
        · have hno := join_big hbig
          have e1 : decide ((8192 : Int) < ((recOf ps).length : Int)) = true := decide_eq_true (by omega)
          have e1' : decide (8192 < (recOf ps).length) = true := decide_eq_true hbig
          have HNO := Lib.hid hno
          clear hno h0 hbig
          go_wp2
          go_ret2
          refine ⟨HB.out, ?_⟩
          rw [HNO.out]
          rfl
        · obtain ⟨ep, ct, hrun⟩ : ∃ ep ct, RunP ps ep ct := by
            rcases HR.out with e | e
            · rw [e] at h0; exact absurd rfl h0
            · exact e
          have hyes := join_yes hrun (by omega) (fun j q hq => HFU.out j q (List.getElem?_eq_some_iff.1 hq).1 hq) (by omega)
          have e1 : decide ((8192 : Int) < ((recOf ps).length : Int)) = false := decide_eq_false (by omega)
          have e1' : decide (8192 < (recOf ps).length) = false := decide_eq_false hbig
          have HYES := Lib.hid hyes
          clear hyes h0 hbig hrun
          go_wp2
          go_ret2
          refine ⟨HB.out, ?_⟩
          rw [HYES.out]
          exact ⟨_, rfl, HO.out⟩
end Go.Proofs.YtmakpbjknklpiaaGreat

/- The document's Write of a log, walked. -/
namespace Go.Proofs.YtmakpbjknklpiaaGreat
open Go.RowKit Go.Tn Go.Tn.Bt Go.Tn.Lp Go.Tn.Dk
/-- Pieces that nobody turns. -/
def PcsK (w : World) (S : Nat → Prop) (v : Value) (ps : List Pc) : Prop := ∃ xs : List (Pc × Sv), xs.map (·.1) = ps ∧ LSl enPc 5 w v xs ∧ (∀ r, v.ownBlock = some r → ¬ S r ∧ r < w.heap.size) ∧ ∀ x ∈ xs, Dat w S x.2 x.1.da
theorem PcsX.k {B : Nat} {w : World} {S : Nat → Prop} {v : Value} {ps : List Pc} (h : PcsX B w v ps) (hS : ∀ b, S b → b < B) : PcsK w S v ps := by
  obtain ⟨xs, h1, h2, h3⟩ := h
  exact ⟨xs, h1, h2.sl elPx.len, fun r hr => ⟨fun e => by have := hS r e; have := h2.lo r hr; omega, h2.lt hr⟩, fun x hx => ⟨(h3 x hx).1, fun r hr => ⟨fun e => by have := hS r e; have := ((h3 x hx).2 r hr).1; omega, ((h3 x hx).2 r hr).2.1⟩⟩⟩
theorem PcsK.turn {w w' : World} {S S' G : Nat → Prop} {v : Value} {ps : List Pc} (h : PcsK w S v ps) (hm : Mod G w w') (hG : ∀ b, G b → S b) (hS : ∀ b, S' b → S b ∨ w.heap.size ≤ b) : PcsK w' S' v ps := by
  obtain ⟨xs, h1, h2, h3, h4⟩ := h
  exact ⟨xs, h1, h2.mod hm fun r hr e => (h3 r hr).1 (hG r e), fun r hr => ⟨fun e => by
    rcases hS r e with h1 | h1
    · exact (h3 r hr).1 h1
    · have := (h3 r hr).2
      omega, Nat.lt_of_lt_of_le (h3 r hr).2 hm.size⟩, fun x hx => (h4 x hx).turn hm hG hS⟩
theorem PtB.turn {w w' : World} {S S' G : Nat → Prop} {v : Value} {ps : List Pt} (h : PtB w S v ps) (hm : Mod G w w') (hG : ∀ b, G b → S b) (hS : ∀ b, S' b → S b ∨ w.heap.size ≤ b) : PtB w' S' v ps := h.mod (hm.mono fun x _ hx => hG x hx) hS
/-- What a call on the document's log leaves. -/
structure LTo (w w' : World) (S F FD S' FD' : Nat → Prop) : Prop where
  mod : Mod (fun b => F b ∨ FD b) w w'
  sub : ∀ b, S b → S' b
  new : ∀ b, S' b → S b ∨ w.heap.size ≤ b
  own : ∀ b, FD' b → FD b ∨ w.heap.size ≤ b
  ap : ∀ b, F b → ¬ FD' b
theorem LTo.refl {w : World} (S : Nat → Prop) {F FD : Nat → Prop} (h : ∀ b, F b → ¬ FD b) : LTo w w S F FD S FD := ⟨Mod.refl _ _, fun _ h => h, fun _ h => .inl h, fun _ h => .inl h, h⟩
theorem LTo.trans {w w1 w2 : World} {S F FD S1 FD1 S2 FD2 : Nat → Prop} (h : LTo w w1 S F FD S1 FD1) (k : LTo w1 w2 S1 F FD1 S2 FD2) : LTo w w2 S F FD S2 FD2 :=
  ⟨h.mod.trans k.mod (fun _ h => h) fun x hx h1 => h1.elim .inl fun h2 => (h.own x h2).elim .inr fun h3 => absurd hx (Nat.not_lt.2 h3), fun b hb => k.sub b (h.sub b hb), fun b hb => (k.new b hb).elim (h.new b) fun h1 => .inr (Nat.le_trans h.mod.size h1), fun b hb => (k.own b hb).elim (h.own b) fun h1 => .inr (Nat.le_trans h.mod.size h1), k.ap⟩
theorem LTo.of_mod {w w' : World} (S : Nat → Prop) {F FD : Nat → Prop} (h : ∀ b, F b → ¬ FD b) (hm : Mod (fun b => F b ∨ FD b) w w') : LTo w w' S F FD S FD := ⟨hm, fun _ h => h, fun _ h => .inl h, fun _ h => .inl h, h⟩
theorem LTo.behind {w w1 w2 : World} {S F FD S1 FD1 : Nat → Prop} (h : LTo w w1 S F FD S1 FD1) (hb : Below w1.heap.size w1 w2) : LTo w w2 S F FD S1 FD1 := h.trans (LTo.of_mod S1 h.ap ((mod0 hb).mono fun _ _ h => h.elim))
theorem LTo.of_r {w w' : World} {S F FD S' FD' : Nat → Prop} (h : RTo w w' S FD S' FD') (hF : ∀ b, F b → ¬ FD b) (hlt : ∀ b, F b → b < w.heap.size) : LTo w w' S F FD S' FD' :=
  ⟨h.mod.mono fun _ _ h => .inr h, h.sub, h.new, h.own, fun b hb e => (h.own b e).elim (hF b hb) fun h1 => absurd (hlt b hb) (Nat.not_lt.2 h1)⟩
theorem RLg.to {w w' : World} {S F FD S' FD' : Nat → Prop} {g p N : Nat} {l : Lg} (h : RLg w S F g p l N) (k : RTo w w' S FD S' FD') (hFD : ∀ b, FD b → S b) (hap : ∀ b, F b → ¬ FD b) (hlt : ∀ b, S' b → b < w'.heap.size) : RLg w' S' F g p l N :=
  h.turn k.mod hFD hap k.new (fun b hb => k.sub b (h.fs b hb)) hlt
end Go.Proofs.YtmakpbjknklpiaaGreat
