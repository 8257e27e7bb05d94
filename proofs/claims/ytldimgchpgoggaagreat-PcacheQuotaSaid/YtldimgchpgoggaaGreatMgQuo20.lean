/- The homes that transactions in the ring have, rising; in plain words, by the library. -/
import Derived.Test.YtldimgchpgoggaaGreatMgQuo19
import Derived.Test.YtldimgchpgoggaaGreatRows
import Derived.Below
import Derived.WalkKit
import Derived.ProofKit
import Derived.ChangeOld
import Derived.Test.YtldimgchpgoggaaGreatMgQuo17
import Derived.Shelf.Sort.Plain
import Derived.Shelf.Slices.In.SortNone
import Derived.Ground.SlsfProg
import Derived.Shelf.SlSortCmp.Insertion
import Derived.Shelf.SlSortCmp.SiftDown1
import Derived.Shelf.SlSortCmp.HeapSort1
import Derived.Shelf.SlSortCmp.Insertion1
import Derived.Shelf.SlSortCmp.Median1
import Derived.Shelf.SlSortCmp.Pivot1
import Derived.Shelf.SlSortCmp.ReverseRange1
import Derived.Shelf.SlSortCmp.PartialInsertion1
import Derived.Shelf.SlSortCmp.PartitionEqual1
import Derived.Shelf.SlSortCmp.Partition1
import Derived.Shelf.SlSortCmp.Pdq1
import Derived.Shelf.SlSortCmp.Whole1
import Derived.Shelf.SlSortCmp.NoneTotal
import Derived.Shelf.Bytes.Small
import Derived.Shelf.SlLaysF
import Derived.Shelf.SlIterI.Nil
import Derived.Ground.GgzProg
import Derived.Test.YtldimgchpgoggaaGreatProg
/- Places that are given up by turns: Next: walked. -/
namespace Go.Proofs.YtldimgchpgoggaaGreat
open Go.RowKit Go.Tn Go.Tn.Bits Go.Tn.Ck
theorem uF_off {r : Rn} {i : Nat} (h : r.L.length ≤ i) : r.at_ i = Pl.no := by
  unfold Rn.at_
  rw [List.getElem?_eq_none h]
  rfl
theorem all_pinned {r : Rn} (h64 : r.L.length ≤ 64) (hu : ∀ j, j < r.L.length → (r.at_ j).used = true) : (((sN r.pF : Nat) : Int) == ((sN r.uF : Nat) : Int)) = r.allPinned := by
  rw [Bool.eq_iff_iff]
  have hget : ∀ j, (hj : j < r.L.length) → r.at_ j = r.L[j] := fun j hj => by
    unfold Rn.at_
    rw [List.getElem?_eq_getElem hj]
    rfl
  constructor
  · intro h
    have h : sN r.pF = sN r.uF := by have := eq_of_beq h; omega
    unfold Rn.allPinned
    rw [List.all_eq_true]
    intro p hp
    obtain ⟨j, hj⟩ := List.getElem?_of_mem hp
    have hlt := (List.getElem?_eq_some_iff.1 hj).1
    have e := sN_inj h (i := j) (by omega)
    unfold Rn.pF Rn.uF at e
    rw [hu j hlt] at e
    have : r.at_ j = p := by
      unfold Rn.at_
      rw [hj]
      rfl
    rw [← this]
    exact e
  · intro h
    have : sN r.pF = sN r.uF := sN_congr fun i _ => by
      unfold Rn.pF Rn.uF
      by_cases hi : i < r.L.length
      · rw [hu i hi, hget i hi]
        unfold Rn.allPinned at h
        exact List.all_eq_true.1 h _ (List.getElem_mem hi)
      · rw [uF_off (by omega)]
        rfl
    rw [this]
    simp
theorem unmark_cells (r : Rn) {i : Nat} (hi : i < r.L.length) : rgC (r.put i { r.at_ i with marked := false }) = (rgC r).setIfInBounds 3 (.int .u64 (sN (setB r.mF i false) : Nat)) := by
  have e1 : setB r.uF i (r.at_ i).used = r.uF := setB_self r.uF i
  have e2 : setB r.pF i (r.at_ i).pinned = r.pF := setB_self r.pF i
  unfold rgC
  rw [put_uF hi, put_pF hi, put_mF hi, put_len]
  simp only
  rw [e1, e2]
  rfl
/-- What Next leaves. -/
def NPost (w : World) (b : Nat) (x : Rn × Int × Nat) (e : Ending) (w' : World) : Prop := e = .returned (.tuple #[.int .i64 x.2.1, .int .i64 (x.2.2 : Nat)]) ∧ RgAt w' b x.1 ∧ Mod (fun x => x = b) w w'
set_option maxRecDepth 20000 in
set_option maxHeartbeats 4000000 in
theorem knext_any {w : World} {b : Nat} {r : Rn} (h : RgAt w b r) : Calls Tryz.prog 63 #[.pointer (some ⟨b, 0, none⟩)] w fun e w' => NPost w b r.next e w' := by
  have hok := kok_any h
  have h64 := h.hi
  have hn1 := h.lo
  have c0 := h.c0
  have c1 := h.c1
  have hh := fun w i (hi : i < 64) => khas_any w r.uF i hi
  have H := Lib.hid h
  have HH := Lib.hid hh
  have H64 := Lib.hid h64
  clear h hh
  obtain ⟨n, hn⟩ : ∃ n, r.L.length = n := ⟨_, rfl⟩
  rw [hn] at c0 h64 hn1
  have HN := Lib.hid hn
  clear hn
  go_enter Tryz.func63, Tryz.ntmps63
  go_wp2_with (first
    | (go_at_call 97; refine hok.mono ?_; rintro e wt ⟨rfl, hw⟩; obtain rfl := hw.symm; clear hw)
    | fail)
  go_loop [13] (fun t => ∃ k : Nat, k ≤ n ∧ t = .int .i64 k ∧ ∀ j, j < k → (r.at_ j).used = true) (fun t => n - (intOf t).toNat)
  case atStart => exact ⟨0, Nat.zero_le _, rfl, fun j hj => absurd hj (Nat.not_lt_zero j)⟩
  case round =>
    obtain ⟨k, hk, rfl, hu⟩ := hrel
    have HU := Lib.hid hu
    clear hu
    by_cases hkn : k < n
    · have hks := HH.out w k (by omega)
      obtain ⟨u, hue⟩ : ∃ u, r.uF k = u := ⟨_, rfl⟩
      rw [hue] at hks
      have HUE := Lib.hid hue
      clear hue
      cases u with
      | false =>
        go_wp2_with (first
          | (go_at_call 87; refine hks.mono ?_; rintro e wt ⟨rfl, hw⟩; obtain rfl := hw.symm; clear hw)
          | fail)
        go_ret2
        have hf : r.next = (r, (k : Int), 0) := by
          unfold Rn.next
          rw [free_some (by rw [HN.out]; exact hkn) HUE.out HU.out]
        rw [hf]
        exact ⟨rfl, H.out, Mod.refl _ _⟩
      | true =>
        go_wp2_with (first
          | (go_at_call 87; refine hks.mono ?_; rintro e wt ⟨rfl, hw⟩; obtain rfl := hw.symm; clear hw)
          | fail)
        go_round
        case rel => exact ⟨k + 1, by omega, by go_num, fun j hj => by
          by_cases hjk : j < k
          · exact HU.out j hjk
          · obtain rfl : j = k := by omega
            exact HUE.out⟩
        case measure => simp [intOf]; omega
    · obtain rfl : k = n := by omega
      have hall := all_pinned H64.out (fun j hj => HU.out j (by rw [HN.out] at hj; exact hj))
      have hfn := free_none (r := r) (fun j hj => HU.out j (by rw [HN.out] at hj; exact hj))
      have HFN := Lib.hid hfn
      have hS : w.drew.cell? ⟨b, 2, none⟩ = some (.int .u64 (sN r.pF : Nat)) ∧ w.drew.cell? ⟨b, 1, none⟩ = some (.int .u64 (sN r.uF : Nat)) := ⟨H.out.c2, H.out.c1⟩
      clear hfn hkn hk
      obtain ⟨q, hq⟩ : ∃ q, r.allPinned = q := ⟨_, rfl⟩
      rw [hq] at hall
      have HQ := Lib.hid hq
      clear hq
      generalize sN r.pF = sp at *
      generalize sN r.uF = su at *
      go_upto_region 9 with fail
      refine wp_region_x (fun w' => w'.cell? ⟨b, 2, none⟩ = some (.int .u64 (sp : Nat)) ∧ w'.cell? ⟨b, 1, none⟩ = some (.int .u64 (su : Nat))) [(0, 1), (1, 1), (2, 1), (3, 0), (4, 1), (5, 1), (6, 1), (7, 0), (8, 1)] (by kernel_rfl) (by kernel_rfl) (by intro d v c a w h; cases d <;> exact h) ?_
      iterate 3 (refine x_take rfl (fun K hK => ?_); go_simp; refine hK _ ?_; clear hK K)
      refine x_read rfl hS (fun w' h => exec_load1 ⟨⟨_, Tryz.underlying143, rfl⟩⟩ rfl h.1) ?_
      iterate 3 (refine x_take rfl (fun K hK => ?_); go_simp; refine hK _ ?_; clear hK K)
      refine x_read rfl hS (fun w' h => exec_load1 ⟨⟨_, Tryz.underlying143, rfl⟩⟩ rfl h.2) ?_
      iterate 1 (refine x_take rfl (fun K hK => ?_); go_simp; refine hK _ ?_; clear hK K)
      refine x_nil ?_
      clear hS c0 c1
      have HD := Lib.hid (H.out.below (Below.refl _ w).drew)
      cases q with
      | true =>
        go_wp2
        go_ret2
        have hf : r.next = (r, -1, 8) := by
          unfold Rn.next
          rw [HFN.out]
          simp only
          rw [HQ.out, if_pos rfl]
        rw [hf]
        exact ⟨rfl, HD.out, (Mod.refl _ w).drew⟩
      | false =>
        obtain ⟨i9, hi9⟩ := scan_some (by rw [HN.out]; exact (HN.out ▸ H.out.hand)) HQ.out
        have HI9 := Lib.hid hi9
        clear hi9 hall
        go_wp2_with fail
        go_loopg [] (2 * k) (fun gk wi => ∃ j : Nat, j + gk = 2 * k ∧ (r.scan j).2 = none ∧ RgAt wi b (r.scan j).1 ∧ Mod (fun x => x = b) w wi)
        case atStart => exact ⟨0, by omega, rfl, HD.out, (Mod.refl _ w).drew⟩
        case round =>
          obtain ⟨j, hj, hjn, hR, hm⟩ := hrel
          have hsn := scan_snoc j r hjn
          have hlen : (r.scan j).1.L.length = k := by rw [scan_len, HN.out]
          have hjlt : j < 2 * k := by
            by_cases hc : j < 2 * k
            · exact hc
            · exfalso
              have hjk : j = 2 * r.L.length := by rw [HN.out]; omega
              rw [hjk, HI9.out] at hjn
              cases hjn
          obtain ⟨rk, hrk⟩ : ∃ rk, (r.scan j).1 = rk := ⟨_, rfl⟩
          rw [hrk] at hR hsn hlen
          have hstop : ∀ i, rk.step.2 = some i → r.next = (rk.step.1, (i : Int), 0) := fun i hi => by
            have e := scan_stop (j := j + 1) (m := 2 * r.L.length) (r := r) (i := i) (by rw [HN.out]; omega) (by rw [hsn]; exact hi)
            unfold Rn.next
            rw [HFN.out]
            simp only
            rw [HQ.out, if_neg (by decide), e, hsn]
            rcases hst : rk.step with ⟨r', _ | q⟩
            · rw [hst] at hi
              cases hi
            · rw [hst] at hi
              cases hi
              rfl
          have hgo : rk.step.2 = none → (r.scan (j + 1)).2 = none ∧ (r.scan (j + 1)).1 = rk.step.1 := fun hi => by
            rw [hsn]
            exact ⟨hi, rfl⟩
          have hand := hR.hand
          have cc4 := hR.c4
          have cc0 := hR.c0
          have f4 : wr.frozen? ⟨b, 4, none⟩ = false := free_of hR.blk
          have hmod : ((rk.hand : Int) + 1) % (k : Int) = (((rk.hand + 1) % k : Nat) : Int) := by rw [Int.natCast_emod]; rfl
          have hlt2 : (rk.hand + 1) % k < k := Nat.mod_lt _ (by omega)
          have hb1 : (wr.setCell ⟨b, 4, none⟩ (.int .i64 (((rk.hand + 1) % k : Nat) : Int))).heap[b]? = some (.cells (rgC ⟨rk.L, (rk.hand + 1) % k⟩) 145 (0, 0)) := by
            rw [heap_setCell_at hR.blk]
            rfl
          have hm1 := hm.setCell ⟨b, 4, none⟩ (.int .i64 (((rk.hand + 1) % k : Nat) : Int)) (fun _ => rfl)
          have hR1 : RgAt (wr.setCell ⟨b, 4, none⟩ (.int .i64 (((rk.hand + 1) % k : Nat) : Int))) b ⟨rk.L, (rk.hand + 1) % k⟩ := ⟨hb1, hR.lo, hR.hi, by show (rk.hand + 1) % k < rk.L.length; rw [hlen]; exact hlt2⟩
          rw [hlen] at cc0 hand
          have hi64 : rk.hand < 64 := by have := hR.hi; omega
          have hp := fun w => khas_any w (⟨rk.L, (rk.hand + 1) % k⟩ : Rn).pF rk.hand hi64
          have hq := fun w => khas_any w (⟨rk.L, (rk.hand + 1) % k⟩ : Rn).mF rk.hand hi64
          have hw := fun w => kwith_any w (⟨rk.L, (rk.hand + 1) % k⟩ : Rn).mF rk.hand hi64 false
          have hpe : (⟨rk.L, (rk.hand + 1) % k⟩ : Rn).pF rk.hand = (rk.at_ rk.hand).pinned := rfl
          have hme : (⟨rk.L, (rk.hand + 1) % k⟩ : Rn).mF rk.hand = (rk.at_ rk.hand).marked := rfl
          rw [hpe] at hp
          rw [hme] at hq
          have e2 := hR1.c2
          have e3 := hR1.c3
          have HR1 := Lib.hid hR1
          have HM1 := Lib.hid hm1
          have HGO := Lib.hid hgo
          have HST := Lib.hid hstop
          have HBB := Lib.hid hb1
          have HLEN := Lib.hid hlen
          clear hR hm hsn hrk hjn hR1 hm1 hgo hstop hb1 hlen hpe hme
          have f3 : (wr.setCell ⟨b, 4, none⟩ (.int .i64 (((rk.hand + 1) % k : Nat) : Int))).frozen? ⟨b, 3, none⟩ = false := free_of HBB.out
          have hun := unmark_cells ⟨rk.L, (rk.hand + 1) % k⟩ (i := rk.hand) (by show _ < rk.L.length; rw [HLEN.out]; exact hand)
          have hstp : ((rk.at_ rk.hand).pinned = true → rk.step = (⟨rk.L, (rk.hand + 1) % k⟩, none)) ∧ ((rk.at_ rk.hand).pinned = false → (rk.at_ rk.hand).marked = true → rk.step = ((⟨rk.L, (rk.hand + 1) % k⟩ : Rn).put rk.hand { rk.at_ rk.hand with marked := false }, none)) ∧
              ((rk.at_ rk.hand).pinned = false → (rk.at_ rk.hand).marked = false → rk.step = (⟨rk.L, (rk.hand + 1) % k⟩, some rk.hand)) := by
            unfold Rn.step
            rw [HLEN.out]
            refine ⟨fun h => by rw [if_pos h], fun h h2 => by rw [if_neg (by rw [h]; decide), if_pos h2]; rfl, fun h h2 => by rw [if_neg (by rw [h]; decide), if_neg (by rw [h2]; decide)]⟩
          have HSTP := Lib.hid hstp
          have HUN := Lib.hid hun
          clear hstp hun
          have hae : (⟨rk.L, (rk.hand + 1) % k⟩ : Rn).at_ rk.hand = rk.at_ rk.hand := rfl
          rw [hae] at HUN
          clear hae
          generalize (rk.hand + 1) % k = i2 at *
          obtain ⟨pp, hpp⟩ : ∃ pp, (rk.at_ rk.hand).pinned = pp := ⟨_, rfl⟩
          obtain ⟨mm, hmm⟩ : ∃ mm, (rk.at_ rk.hand).marked = mm := ⟨_, rfl⟩
          rw [hpp] at hp
          rw [hmm] at hq
          have HPP := Lib.hid hpp
          have HMM := Lib.hid hmm
          clear hpp hmm
          generalize hgp : sN (⟨rk.L, i2⟩ : Rn).pF = sp2 at *
          generalize hgm : sN (⟨rk.L, i2⟩ : Rn).mF = sm2 at *
          generalize hgw : sN (setB (⟨rk.L, i2⟩ : Rn).mF rk.hand false) = sw2 at *
          generalize hgh : rk.hand = hd at *
          clear hgp hgm hgw hgh
          cases pp with
          | true =>
            have hst := HSTP.out.1 HPP.out
            have hg := HGO.out (by rw [hst])
            rw [hst] at hg
            have HG := Lib.hid hg
            clear hst hg
            go_wp2_with (first
              | (go_at_call 87; refine (hp _).mono ?_; rintro e wt ⟨rfl, hw⟩; obtain rfl := hw.symm; clear hw)
              | fail)
            go_roundg (gk - 1)
            case rel => exact ⟨j + 1, by omega, HG.out.1, by rw [HG.out.2]; exact HR1.out, HM1.out⟩
            case measure => omega
          | false => cases mm with
            | true =>
              have hst := HSTP.out.2.1 HPP.out HMM.out
              have hg := HGO.out (by rw [hst])
              rw [hst] at hg
              have HG := Lib.hid hg
              clear hst hg
              go_wp2_with (first
                | (go_at_call 87; refine (hp _).mono ?_; rintro e wt ⟨rfl, hw⟩; obtain rfl := hw.symm; clear hw)
                | (go_at_call 87; refine (hq _).mono ?_; rintro e wt ⟨rfl, hw⟩; obtain rfl := hw.symm; clear hw)
                | (go_at_call 98; refine (hw _).mono ?_; rintro e wt ⟨rfl, hw'⟩; obtain rfl := hw'.symm; clear hw')
                | fail)
              go_roundg (gk - 1)
              case rel => exact ⟨j + 1, by omega, HG.out.1, by
                rw [HG.out.2]
                refine ⟨?_, by rw [put_len]; exact HR1.out.lo, by rw [put_len]; exact HR1.out.hi, by rw [put_len]; exact HR1.out.hand⟩
                rw [HUN.out]
                exact heap_setCell_at HBB.out, HM1.out.setCell _ _ (fun _ => rfl)⟩
              case measure => omega
            | false =>
              have hst := HSTP.out.2.2 HPP.out HMM.out
              have hg := HST.out hd (by rw [hst])
              rw [hst] at hg
              have HG := Lib.hid hg
              clear hst hg
              go_wp2_with (first
                | (go_at_call 87; refine (hp _).mono ?_; rintro e wt ⟨rfl, hw⟩; obtain rfl := hw.symm; clear hw)
                | (go_at_call 87; refine (hq _).mono ?_; rintro e wt ⟨rfl, hw⟩; obtain rfl := hw.symm; clear hw)
                | fail)
              go_ret2
              rw [HG.out]
              exact ⟨rfl, HR1.out, HM1.out⟩
end Go.Proofs.YtldimgchpgoggaaGreat

/- The rows, and the program's knob. -/
namespace Go.Proofs.YtldimgchpgoggaaGreat
open Go.RowKit
theorem Tryz.own : ownKnob Tryz.prog.godebug = none := by kernel_rfl
theorem Tryz.laidOut : laidOutB Tryz.prog = true := by kernel_rfl
end Go.Proofs.YtldimgchpgoggaaGreat

/- A new disk's log, in plain words. -/
namespace Go.Proofs.YtldimgchpgoggaaGreat
open Go.RowKit Go.Tn Go.Tn.Bt Go.Tn.Lp Go.Tn.Dk
theorem newd_get {k i : Nat} (hi : i < k) : (newD k).get i = zeroS := by
  unfold Dsk.get newD seenQ
  simp [hi]
set_option maxRecDepth 100000 in
theorem ends_zero : endsB zeroS = (0, 0) := by decide +kernel
set_option maxRecDepth 100000 in
theorem unseal_zero0 : (unsealB zeroS).map (fun p => (p.ep, p.ct, p.fi, p.la, p.da)) = some (0, 0, false, false, []) := by decide +kernel
theorem unseal_zero : unsealB zeroS = some ⟨0, 0, false, false, []⟩ := by
  have h := unseal_zero0
  cases hu : unsealB zeroS with
  | none => rw [hu] at h; cases h
  | some p =>
    rw [hu] at h
    obtain ⟨a, b, c, d, e⟩ := p
    simp at h
    obtain ⟨rfl, rfl, rfl, rfl, rfl⟩ := h
    rfl
theorem newest_zero (k : Nat) : ∀ j, j ≤ k → newestB (newD k) j = 0
  | 0, _ => rfl
  | j + 1, h => by
    unfold newestB
    rw [newest_zero k j (by omega), newd_get (by omega), ends_zero]
    rfl
theorem hd_zero (i : Nat) : hdB zeroS i = none := by
  unfold hdB
  rw [unseal_zero]
  simp [headP]
theorem head_zero {k a : Nat} (h : a + 1 < k) : (newD k).head a = none := by
  unfold Dsk.head
  rw [newd_get (by omega), newd_get h, hd_zero, hd_zero]
  rfl
theorem rec_zero {k n ep g f : Nat} (hn : 2 ≤ n) (hk : n + 3 ≤ k) : (log0 n ep g 0).recordB (newD k) f = [] := by
  have hp : pieceB (newD k) n 0 = some ⟨0, 0, false, false, []⟩ := by
    unfold pieceB
    rw [Nat.zero_mod, newd_get (by omega), unseal_zero]
    rfl
  unfold Lg.recordB
  have hfr : (log0 n ep g 0).free = (n - 1) + 1 := by
    show n - (0 - 0) = _
    omega
  rw [hfr]
  show recGo (newD k) n 0 f (n - 1 + 1) [] = []
  unfold recGo
  rw [show 0 + ([] : List Pc).length = 0 from rfl, hp]
  simp
theorem open_new {k n : Nat} (hn : 2 ≤ n) (hk : n + 3 ≤ k) : openB (newD k) n = some (log0 n 1 0 0) := by
  unfold openB
  rw [newest_zero k (2 + n) (by omega), if_neg (by omega), head_zero (by omega)]
  simp only [Option.getD_none, Option.isSome_none]
  unfold replayL
  have hh : hd0.gen = 0 ∧ hd0.tail = 0 := ⟨rfl, rfl⟩
  rw [hh.1, hh.2, if_neg (by decide)]
  unfold replayGo
  rw [rec_zero hn hk]
  rfl
end Go.Proofs.YtldimgchpgoggaaGreat

/-
  DERIVED: THE SHELF's CONTRACTS AT THIS DUMP, IN PLAIN WORDS (tools/lay-plain.mjs out of 'TryzShelf.lean', which tools/lay-shelf.mjs wrote): THE SAME DECLARATIONS UNDER THE SAME NAMES: 'import', 'namespace', 'open', 'def', 'theorem' AND NOTHING ELSE: no command of the shelf's: FOR A HAND-IN. Each laying: the table of numbers ('.._ren') and one theorem, a field a fact of the dump's own or the kernel's comparison; each contract: ONE APPLICATION.
-/
namespace Go.Proofs
open Go.Shelf
def Tryz.lays189_ren : Go.Shelf.Ren := ⟨fun | 189 => 168 | 125 => 138 | 257 => 179 | 128 => 163 | 129 => 164 | 294 => 181 | 295 => 182 | 296 => 183 | 297 => 184 | 298 => 185 | 299 => 186 | 216 => 187 | 300 => 188 | 301 => 189 | 328 => 190 | 329 => 171 | 330 => 172 | 331 => 191 | 332 => 192 | 215 => 88 | 343 => 193 | n => n, fun | 28 => 39 | 3 => 3 | 46 => 166 | 0 => 0 | 51 => 214 | 53 => 36 | 4 => 4 | 183 => 222 | 182 => 221 | 131 => 95 | 5 => 5 | 9 => 9 | 218 => 230 | 222 => 233 | 228 => 242 | 229 => 155 | n => n, fun | n => n⟩
theorem Tryz.lays189 : Go.Proofs.Lays.n189 Tryz.prog Tryz.lays189_ren := {
  mixed := by kernel_rfl
  f125 := Tryz.func138.trans (congrArg some (by kernel_rfl))
  f128 := Tryz.func163.trans (congrArg some (by kernel_rfl))
  f129 := Tryz.func164.trans (congrArg some (by kernel_rfl))
  f189 := Tryz.func168.trans (congrArg some (by kernel_rfl))
  f215 := Tryz.func88.trans (congrArg some (by kernel_rfl))
  f216 := Tryz.func187.trans (congrArg some (by kernel_rfl))
  f257 := Tryz.func179.trans (congrArg some (by kernel_rfl))
  f294 := Tryz.func181.trans (congrArg some (by kernel_rfl))
  f295 := Tryz.func182.trans (congrArg some (by kernel_rfl))
  f296 := Tryz.func183.trans (congrArg some (by kernel_rfl))
  f297 := Tryz.func184.trans (congrArg some (by kernel_rfl))
  f298 := Tryz.func185.trans (congrArg some (by kernel_rfl))
  f299 := Tryz.func186.trans (congrArg some (by kernel_rfl))
  f300 := Tryz.func188.trans (congrArg some (by kernel_rfl))
  f301 := Tryz.func189.trans (congrArg some (by kernel_rfl))
  f328 := Tryz.func190.trans (congrArg some (by kernel_rfl))
  f329 := Tryz.func171.trans (congrArg some (by kernel_rfl))
  f330 := Tryz.func172.trans (congrArg some (by kernel_rfl))
  f331 := Tryz.func191.trans (congrArg some (by kernel_rfl))
  f332 := Tryz.func192.trans (congrArg some (by kernel_rfl))
  f343 := Tryz.func193.trans (congrArg some (by kernel_rfl))
  t0 := Tryz.underlying0
  a0 := Tryz.isAgg0
  z0 := Tryz.sizeOf0
  v0 := Tryz.zeroValue0
  t3 := Tryz.underlying3
  a3 := Tryz.isAgg3
  z3 := Tryz.sizeOf3
  v3 := Tryz.zeroValue3
  t4 := Tryz.underlying4
  a4 := Tryz.isAgg4
  z4 := Tryz.sizeOf4
  v4 := Tryz.zeroValue4
  t5 := Tryz.underlying5
  a5 := Tryz.isAgg5
  z5 := Tryz.sizeOf5
  v5 := Tryz.zeroValue5
  t9 := Tryz.underlying9
  a9 := Tryz.isAgg9
  z9 := Tryz.sizeOf9
  v9 := Tryz.zeroValue9
  t28 := Tryz.underlying39
  a28 := Tryz.isAgg39
  z28 := Tryz.sizeOf39
  v28 := Tryz.zeroValue39
  t46 := Tryz.underlying166
  a46 := Tryz.isAgg166
  z46 := Tryz.sizeOf166
  v46 := Tryz.zeroValue166
  t51 := Tryz.underlying214
  a51 := Tryz.isAgg214
  z51 := Tryz.sizeOf214
  v51 := Tryz.zeroValue214
  t53 := Tryz.underlying36
  a53 := Tryz.isAgg36
  z53 := Tryz.sizeOf36
  v53 := Tryz.zeroValue36
  t131 := Tryz.underlying95
  a131 := Tryz.isAgg95
  z131 := Tryz.sizeOf95
  v131 := Tryz.zeroValue95
  t182 := Tryz.underlying221
  a182 := Tryz.isAgg221
  z182 := Tryz.sizeOf221
  v182 := Tryz.zeroValue221
  t183 := Tryz.underlying222
  a183 := Tryz.isAgg222
  z183 := Tryz.sizeOf222
  v183 := Tryz.zeroValue222
  t218 := Tryz.underlying230
  a218 := Tryz.isAgg230
  z218 := Tryz.sizeOf230
  v218 := Tryz.zeroValue230
  t222 := Tryz.underlying233
  a222 := Tryz.isAgg233
  z222 := Tryz.sizeOf233
  v222 := Tryz.zeroValue233
  t228 := Tryz.underlying242
  a228 := Tryz.isAgg242
  z228 := Tryz.sizeOf242
  v228 := Tryz.zeroValue242
  t229 := Tryz.underlying155
  a229 := Tryz.isAgg155
  z229 := Tryz.sizeOf155
  v229 := Tryz.zeroValue155 }
open Go.Sort Go.RowKit in
theorem Tryz.slices_Sort_int (blk off cap : Nat) (zs : List Int) (w : World) (hH : Holds (Value.int .i64) w blk off zs.toArray) (hblk : blk < w.heap.size) (hsz : zs.length < 4611686018427387904) :
    Calls Tryz.prog 168 #[.slice (some ⟨blk, off, none⟩) zs.length cap] w fun e w' =>
      e = .returned (.tuple #[]) ∧ ∃ n os, w' = grow (putRow (Value.int .i64) (Sort.ahead w n) blk off (zs.mergeSort fun x y => decide (x ≤ y)).toArray) os := Any.slices_Sort_int Tryz.lays189 blk off cap zs w hH hblk hsz
open Go.RowKit Go.Sort in
/-- .. and plain. (LAID: no walk: one application.) -/
theorem Tryz.slices_Sort_int_none (p : Option Addr) (cap : Nat) (w : World) :
    Calls Tryz.prog 168 #[.slice p 0 cap] w fun e w' => e = .returned (.tuple #[]) ∧ w' = w := Any.slices_Sort_int_none Tryz.lays189 p cap w
def Tryz.sortF_ren : Go.Shelf.Ren := ⟨fun | 6 => 104 | 15 => 138 | 14 => 137 | 28 => 163 | 29 => 164 | 20 => 155 | 21 => 156 | 22 => 157 | 23 => 158 | 24 => 159 | 25 => 160 | 26 => 161 | 27 => 162 | 46 => 170 | 47 => 171 | 48 => 172 | 49 => 173 | 50 => 174 | 57 => 180 | n => n, fun | 22 => 39 | 24 => 3 | 25 => 98 | 3 => 3 | 39 => 166 | 0 => 0 | 53 => 214 | 55 => 36 | 4 => 4 | 46 => 222 | 45 => 221 | 50 => 95 | 5 => 5 | 9 => 9 | 66 => 230 | 70 => 233 | 76 => 242 | 77 => 155 | n => n, fun | n => n⟩
theorem Tryz.sortF : Go.Proofs.SlLaysF.n6 Tryz.prog Tryz.sortF_ren := {
  mixed := by kernel_rfl
  f6 := ⟨Tryz.f104.name, by decide, Tryz.func104.trans (congrArg some (by kernel_rfl))⟩
  f14 := ⟨Tryz.f137.name, by decide, Tryz.func137.trans (congrArg some (by kernel_rfl))⟩
  f15 := Tryz.func138.trans (congrArg some (by kernel_rfl))
  f20 := ⟨Tryz.f155.name, by decide, Tryz.func155.trans (congrArg some (by kernel_rfl))⟩
  f21 := ⟨Tryz.f156.name, by decide, Tryz.func156.trans (congrArg some (by kernel_rfl))⟩
  f22 := ⟨Tryz.f157.name, by decide, Tryz.func157.trans (congrArg some (by kernel_rfl))⟩
  f23 := ⟨Tryz.f158.name, by decide, Tryz.func158.trans (congrArg some (by kernel_rfl))⟩
  f24 := ⟨Tryz.f159.name, by decide, Tryz.func159.trans (congrArg some (by kernel_rfl))⟩
  f25 := ⟨Tryz.f160.name, by decide, Tryz.func160.trans (congrArg some (by kernel_rfl))⟩
  f26 := ⟨Tryz.f161.name, by decide, Tryz.func161.trans (congrArg some (by kernel_rfl))⟩
  f27 := ⟨Tryz.f162.name, by decide, Tryz.func162.trans (congrArg some (by kernel_rfl))⟩
  f28 := Tryz.func163.trans (congrArg some (by kernel_rfl))
  f29 := Tryz.func164.trans (congrArg some (by kernel_rfl))
  f46 := ⟨Tryz.f170.name, by decide, Tryz.func170.trans (congrArg some (by kernel_rfl))⟩
  f47 := Tryz.func171.trans (congrArg some (by kernel_rfl))
  f48 := Tryz.func172.trans (congrArg some (by kernel_rfl))
  f49 := ⟨Tryz.f173.name, by decide, Tryz.func173.trans (congrArg some (by kernel_rfl))⟩
  f50 := ⟨Tryz.f174.name, by decide, Tryz.func174.trans (congrArg some (by kernel_rfl))⟩
  f57 := ⟨Tryz.f180.name, by decide, Tryz.func180.trans (congrArg some (by kernel_rfl))⟩
  t0 := Tryz.underlying0
  a0 := Tryz.isAgg0
  z0 := Tryz.sizeOf0
  v0 := Tryz.zeroValue0
  t3 := Tryz.underlying3
  a3 := Tryz.isAgg3
  z3 := Tryz.sizeOf3
  v3 := Tryz.zeroValue3
  t4 := Tryz.underlying4
  a4 := Tryz.isAgg4
  z4 := Tryz.sizeOf4
  v4 := Tryz.zeroValue4
  t5 := Tryz.underlying5
  a5 := Tryz.isAgg5
  z5 := Tryz.sizeOf5
  v5 := Tryz.zeroValue5
  t9 := Tryz.underlying9
  a9 := Tryz.isAgg9
  z9 := Tryz.sizeOf9
  v9 := Tryz.zeroValue9
  t22 := Tryz.underlying39
  a22 := Tryz.isAgg39
  z22 := Tryz.sizeOf39
  v22 := Tryz.zeroValue39
  a24 := Tryz.isAgg3
  z24 := Tryz.sizeOf3
  t25 := Tryz.underlying98
  a25 := Tryz.isAgg98
  z25 := Tryz.sizeOf98
  v25 := Tryz.zeroValue98
  t39 := Tryz.underlying166
  a39 := Tryz.isAgg166
  z39 := Tryz.sizeOf166
  v39 := Tryz.zeroValue166
  t45 := Tryz.underlying221
  a45 := Tryz.isAgg221
  z45 := Tryz.sizeOf221
  v45 := Tryz.zeroValue221
  t46 := Tryz.underlying222
  a46 := Tryz.isAgg222
  z46 := Tryz.sizeOf222
  v46 := Tryz.zeroValue222
  t50 := Tryz.underlying95
  a50 := Tryz.isAgg95
  z50 := Tryz.sizeOf95
  v50 := Tryz.zeroValue95
  t53 := Tryz.underlying214
  a53 := Tryz.isAgg214
  z53 := Tryz.sizeOf214
  v53 := Tryz.zeroValue214
  t55 := Tryz.underlying36
  a55 := Tryz.isAgg36
  z55 := Tryz.sizeOf36
  v55 := Tryz.zeroValue36
  t66 := Tryz.underlying230
  a66 := Tryz.isAgg230
  z66 := Tryz.sizeOf230
  v66 := Tryz.zeroValue230
  t70 := Tryz.underlying233
  a70 := Tryz.isAgg233
  z70 := Tryz.sizeOf233
  v70 := Tryz.zeroValue233
  t76 := Tryz.underlying242
  a76 := Tryz.isAgg242
  z76 := Tryz.sizeOf242
  v76 := Tryz.zeroValue242
  t77 := Tryz.underlying155
  a77 := Tryz.isAgg155
  z77 := Tryz.sizeOf155
  v77 := Tryz.zeroValue155 }
def Tryz.keysA_ren : Go.Shelf.Ren := ⟨fun | 7 => 154 | 10 => 169 | n => n, fun | 23 => 133 | 26 => 3 | 3 => 107 | 28 => 218 | 0 => 0 | 27 => 217 | 33 => 153 | 4 => 4 | n => n, fun | n => n⟩
theorem Tryz.keysA : Go.Proofs.SlLaysZI.n7 Tryz.prog Tryz.keysA_ren := {
  mixed := by kernel_rfl
  f7 := ⟨Tryz.f154.name, by decide, Tryz.func154.trans (congrArg some (by kernel_rfl))⟩
  f10 := ⟨Tryz.f169.name, by decide, Tryz.func169.trans (congrArg some (by kernel_rfl))⟩
  t0 := Tryz.underlying0
  a0 := Tryz.isAgg0
  z0 := Tryz.sizeOf0
  v0 := Tryz.zeroValue0
  t4 := Tryz.underlying4
  a4 := Tryz.isAgg4
  z4 := Tryz.sizeOf4
  v4 := Tryz.zeroValue4
  t23 := Tryz.underlying133
  a23 := Tryz.isAgg133
  z23 := Tryz.sizeOf133
  v23 := Tryz.zeroValue133
  t26 := Tryz.underlying3
  a26 := Tryz.isAgg3
  z26 := Tryz.sizeOf3
  v26 := Tryz.zeroValue3
  t27 := Tryz.underlying217
  a27 := Tryz.isAgg217
  z27 := Tryz.sizeOf217
  v27 := Tryz.zeroValue217
  t28 := Tryz.underlying218
  a28 := Tryz.isAgg218
  z28 := Tryz.sizeOf218
  v28 := Tryz.zeroValue218
  t33 := Tryz.underlying153
  a33 := Tryz.isAgg153
  z33 := Tryz.sizeOf153
  v33 := Tryz.zeroValue153 }
def Tryz.sortedA_ren : Go.Shelf.Ren := ⟨fun | 6 => 153 | 8 => 167 | 9 => 168 | 11 => 178 | 13 => 138 | 12 => 179 | 23 => 163 | 24 => 164 | 14 => 181 | 15 => 182 | 16 => 183 | 17 => 184 | 18 => 185 | 19 => 186 | 20 => 187 | 21 => 188 | 22 => 189 | 25 => 190 | 26 => 171 | 27 => 172 | 28 => 191 | 29 => 192 | 30 => 88 | 31 => 193 | n => n, fun | 26 => 3 | 28 => 218 | 24 => 39 | 0 => 0 | 3 => 3 | 37 => 166 | 48 => 214 | 50 => 36 | 4 => 4 | 40 => 222 | 39 => 221 | 45 => 95 | 5 => 5 | 9 => 9 | 51 => 230 | 55 => 233 | 57 => 242 | 58 => 155 | 33 => 153 | n => n, fun | n => n⟩
theorem Tryz.sortedA : Go.Proofs.SlLaysZI.n6 Tryz.prog Tryz.sortedA_ren := {
  mixed := by kernel_rfl
  f6 := ⟨Tryz.f153.name, by decide, Tryz.func153.trans (congrArg some (by kernel_rfl))⟩
  f8 := ⟨Tryz.f167.name, by decide, Tryz.func167.trans (congrArg some (by kernel_rfl))⟩
  f11 := ⟨Tryz.f178.name, by decide, Tryz.func178.trans (congrArg some (by kernel_rfl))⟩
  t0 := Tryz.underlying0
  a0 := Tryz.isAgg0
  z0 := Tryz.sizeOf0
  v0 := Tryz.zeroValue0
  t24 := Tryz.underlying39
  a24 := Tryz.isAgg39
  z24 := Tryz.sizeOf39
  v24 := Tryz.zeroValue39
  t26 := Tryz.underlying3
  a26 := Tryz.isAgg3
  z26 := Tryz.sizeOf3
  v26 := Tryz.zeroValue3
  t28 := Tryz.underlying218
  a28 := Tryz.isAgg218
  z28 := Tryz.sizeOf218
  v28 := Tryz.zeroValue218
  i26 := by kernel_rfl }
end Go.Proofs

/- The homes that transactions in the ring have, rising; in plain words, by the library. -/
namespace Go.Tn.Dk
open Go.Tn
/-- The homes that are not home, rising. -/
def Lg.keys (l : Lg) (d : Dsk) : List Nat := (List.range (l.homes d)).filter fun k => (l.H k).isSome
theorem nodup_le : ∀ (n : Nat) (l : List Int), l.Nodup → (∀ x ∈ l, 0 ≤ x ∧ x < n) → l.length ≤ n
  | 0, l, _, h => by
    cases l with
    | nil => exact Nat.le_refl _
    | cons x r => have := h x List.mem_cons_self; omega
  | n + 1, l, hd, h => by
    by_cases hm : (n : Int) ∈ l
    · have h1 := nodup_le n (l.erase n) (hd.erase _) fun x hx => by
        have h2 := (hd.mem_erase_iff).1 hx
        have := h x h2.2
        omega
      rw [List.length_erase_of_mem hm] at h1
      omega
    · have := nodup_le n l hd fun x hx => by
        have := h x hx
        have : x ≠ n := fun e => hm (e ▸ hx)
        omega
      omega
end Go.Tn.Dk
namespace Go.Proofs.YtldimgchpgoggaaGreat
open Go.RowKit Go.Tn Go.Maps Go.Sort Go.Shelf Go.Tn.Bt Go.Tn.Lp Go.Tn.Dk
theorem sortsA (m : Nat) : AnyZI.SortsIn Tryz.prog Tryz.sortedA_ren Fence.wide m :=
  ⟨fun blk off cap ss W hH hblk hsz => callsIn_wide.2 (Tryz.slices_Sort_int blk off cap ss W hH hblk hsz),
   fun p cap W => callsIn_wide.2 (Tryz.slices_Sort_int_none p cap W)⟩
theorem keys_call (W : World) (m : Nat) : Calls Tryz.prog 154 #[.map (some m)] W
    fun e w' => e = .returned (.func (.func 169) #[] #[.pointer (some ⟨W.heap.size, 0, none⟩)]) ∧ w' = W.alloc (.cells #[.map (some m)] 133) :=
  (callsIn_wide (n := 5)).1 (AnyZI.keys_in Tryz.keysA Fence.wide 5 trivial rfl (some m) W)
theorem sorted_call (w : World) (m clk : Nat) (L : Ents Int) (hb : w.heap[m]? = some (.map (ents encI L) clk)) (hwf : WF L clk) (hk : ∀ e ∈ L, (Lit.int .i64 e.1).wf = true) (hl : L.length ≤ 100000) :
    Calls Tryz.prog 153 #[.func (.func 169) #[] #[.pointer (some ⟨w.heap.size, 0, none⟩)]] (w.alloc (.cells #[.map (some m)] 133))
      fun e w' => ∃ v, e = .returned v ∧ w'.ownsRow w.heap.size 3 1 v L.length (((L.map (·.1)).mergeSort leI).map encZ) ∧ Below w.heap.size w w' := by
  obtain ⟨D0, hown, hperm, hsz⟩ := owns_ents Tryz.underlying3 hb hwf hk hl
  have hbl : m < w.heap.size := lt_of_block hb
  have hal : Below w.heap.size w (w.alloc (.cells #[.map (some m)] 133)) := (Below.refl _ w).alloc (Nat.le_refl _) _
  have hmax : Maps.size D0 ≤ maxLen := by rw [hsz]; unfold maxLen; omega
  have hbytes : Maps.size D0 * 8 ≤ 140737488355328 := by rw [hsz]; omega
  have hseq : SeqGives Fence.wide 2 Tryz.prog 169 #[.pointer (some ⟨w.heap.size, 0, none⟩)] encZ (fun ss => ss.Perm (intKeys D0)) (Maps.size D0) (w.alloc (.cells #[.map (some m)] 133)) :=
    AnyZI.keys_gives (ρ := Tryz.keysA_ren) { Tryz.keysA with } Fence.wide _ trivial rfl (by omega) w.heap.size m L.length D0 _ (by simp) (by simp) (by
      obtain ⟨es, clock, hb, Ft, hs, hD⟩ := hown
      exact ⟨es, clock, (Below.heap_alloc _ _ m hbl).trans hb, Ft, hs, hD⟩)
  have cS := AnyZI.sorted_in Tryz.sortedA Fence.wide 5 trivial trivial trivial trivial rfl (by omega) (sortsA _) (enters_of Tryz.func168 (by kernel_rfl) rfl) 169 #[.pointer (some ⟨w.heap.size, 0, none⟩)] trivial (enters_of Tryz.func169 (by kernel_rfl) rfl) _ _ hmax hbytes _ hseq
  change CallsIn _ _ Tryz.prog 153 _ _ _ at cS
  refine ((callsIn_wide (n := 5)).1 cS).mono ?_
  rintro e w' ⟨v, ss, rfl, hS, hrow, _, hbl2⟩
  have hp2 : ss.Perm (L.map (·.1)) := hS.trans hperm
  have hlen : ss.length = L.length := by rw [hp2.length_eq, List.length_map]
  refine ⟨v, rfl, ?_, hal.trans (hbl2.mono (by simp))⟩
  rw [← mergeSort_of_perm_i hp2, ← hlen]
  exact ownsRow_base_a hrow (by simp)
abbrev enI : Int → List Value := fun z => [.int .i64 z]
/-- The homes' numbers in a slice. -/
theorem hkeys_any {w : World} {F : Nat → Prop} {m clk : Nat} {L : Ents Int} {l : Lg} {d : Dsk} (hok : l.ok d) (hd : d.ok) (h : HAt w F m L clk l.H) :
    Calls Tryz.prog 153 #[.func (.func 169) #[] #[.pointer (some ⟨w.heap.size, 0, none⟩)]] (w.alloc (.cells #[.map (some m)] 133))
      fun e w' => ∃ v, e = .returned v ∧ LOut enI 1 3 w.heap.size w' v ((l.keys d).map fun (k : Nat) => (k : Int)) ∧ Below w.heap.size w w' := by
  have hlt : ∀ e ∈ L, 0 ≤ e.1 ∧ e.1 < ((l.homes d : Nat) : Int) := fun e he => by
    obtain ⟨k, hk, b, hb, -⟩ := h.key e he
    have := (hok.H k b hb).1
    omega
  have hnd : (L.map (·.1)).Nodup := by
    have := h.wf.keys
    exact List.pairwise_map.2 (this.imp fun h => h)
  have hh : l.homes d ≤ 4096 := by unfold Lg.homes; have := hd.hi; omega
  have hlen : L.length ≤ 100000 := by
    have := nodup_le (l.homes d) (L.map (·.1)) hnd fun x hx => by
      obtain ⟨e, he, rfl⟩ := List.mem_map.1 hx
      exact hlt e he
    rw [List.length_map] at this
    omega
  have hkd : ((l.keys d).map fun (k : Nat) => (k : Int)).Nodup := by
    refine List.pairwise_map.2 ((List.Pairwise.filter _ (List.nodup_range (n := l.homes d))).imp fun h e => h (by omega))
  have hperm : (L.map (·.1)).Perm ((l.keys d).map fun (k : Nat) => (k : Int)) := by
    refine (List.perm_ext_iff_of_nodup hnd hkd).2 fun a => ⟨fun ha => ?_, fun ha => ?_⟩
    · obtain ⟨e, he, rfl⟩ := List.mem_map.1 ha
      obtain ⟨k, hk, b, hb, -⟩ := h.key e he
      refine List.mem_map.2 ⟨k, ?_, hk.symm⟩
      unfold Lg.keys
      rw [List.mem_filter, List.mem_range, hb]
      exact ⟨(hok.H k b hb).1, rfl⟩
    · obtain ⟨k, hk, rfl⟩ := List.mem_map.1 ha
      unfold Lg.keys at hk
      rw [List.mem_filter] at hk
      obtain ⟨e, he, hek⟩ := h.all k (by
        intro e
        rw [e] at hk
        simp at hk)
      exact List.mem_map.2 ⟨e, he, hek⟩
  have hsrt : ((L.map (·.1)).mergeSort leI) = (l.keys d).map fun (k : Nat) => (k : Int) := by
    rw [mergeSort_of_perm_i hperm]
    refine List.mergeSort_of_pairwise ?_
    refine List.pairwise_map.2 ((List.Pairwise.filter _ (List.pairwise_lt_range (n := l.homes d))).imp fun h => ?_)
    simp only [leI, decide_eq_true_eq]
    omega
  refine (sorted_call w m clk L h.blk h.wf (fun e he => ?_) hlen).mono ?_
  · have := hlt e he
    simp [Lit.wf, IntKind.min, IntKind.max, IntKind.signed, IntKind.bits]
    omega
  · rintro e w' ⟨v, rfl, hrow, hb⟩
    rw [hsrt] at hrow
    have hll : L.length = ((l.keys d).map fun (k : Nat) => (k : Int)).length := by rw [← hperm.length_eq, List.length_map]
    rw [hll] at hrow
    refine ⟨v, rfl, ⟨?_, fun r hr => ?_, hb.size⟩, hb⟩
    · have hfl : ∀ zs : List Int, zs.flatMap enI = zs.map encZ := fun zs => by
        induction zs with
        | nil => rfl
        | cons z zs ih =>
          rw [List.flatMap_cons, ih]
          rfl
      rw [hfl]
      exact ownsRow_base_a hrow (Nat.zero_le _)
    · rcases hrow.2 with ⟨hv, _⟩ | ⟨g, cap, cur, hv, h0, _⟩
      · rw [hv] at hr; cases hr
      · rw [hv] at hr; cases hr; exact h0
end Go.Proofs.YtldimgchpgoggaaGreat
