/- The document's record: plain; SetSession, SetHolds of it: walked. -/
import Derived.Test.YtipbaajdnnddgaaGreatMgVlj28
import Derived.Test.YtipbaajdnnddgaaGreatRows
import Derived.Below
import Derived.WalkKit
import Derived.ProofKit
import Derived.ChangeOld
import Derived.Test.YtipbaajdnnddgaaGreatMgVlj33
/- The disk: Crash, walked. -/
namespace Go.Proofs.YtipbaajdnnddgaaGreat
open Go.RowKit Go.Tn Go.Tn.Bt Go.Tn.Lp Go.Tn.Dk
theorem LSl.modE {α : Type} {en : α → List Value} {k : Nat} {w w' : World} {v : Value} {xs : List α} {S : Nat → Prop} (h : LSl en k w v xs) (hm : Mod S w w') (hr : 0 < xs.length → ∀ r, v.ownBlock = some r → ¬ S r) : LSl en k w' v xs := by
  by_cases h0 : 0 < xs.length
  · exact h.mod hm (hr h0)
  · obtain ⟨ao, cap, rfl, h1, h2, -⟩ := h
    exact ⟨ao, cap, rfl, h1, h2, fun h => absurd h h0⟩
set_option maxRecDepth 20000 in
set_option maxHeartbeats 4000000 in
theorem dcrash_any {w : World} {F : Nat → Prop} {p : Nat} {d : Dsk} (h : DAt w F p d) (v : Value) (ks : List Int) (hv : LSl enI 1 w v ks) (hvF : 0 < ks.length → ∀ r, v.ownBlock = some r → ¬ F r) (torn : Int) :
    Calls Tryz.prog 18 #[.pointer (some ⟨p, 0, none⟩), v, .int .i64 torn] w fun e w' => e = .returned (.tuple #[]) ∧ DAt w' F p (d.crash ks torn) ∧ Mod F w w' := by
  have hsz := size_any h
  have hlo := h.ok.lo
  have hhi := h.ok.hi
  have hsm := h.ok.small
  have HOK := Lib.hid (h.ok.crash ks torn)
  have HSEC := Lib.hid h.ok.sec
  have HQQ := Lib.hid h.ok.que
  have HLF := Lib.hid h.lt
  have hne : ((d.L.length : Int) == 0) = false := beq_eq_false_iff_ne.2 (by omega)
  obtain ⟨r, qv, h1, h2, h3, h4, h5, h6, h7⟩ := h.ex
  have HFP := Lib.hid h6
  have HFR := Lib.hid h7
  obtain ⟨qa, qc, rfl, hq1, hq2, hq3⟩ := h3.sl elQ.len
  unfold maxLen at hq2
  have c1 := cell_of (o := 1) h1 rfl
  have hqr : ¬ (Value.slice qa d.Q.length qc).ownBlock = some r := fun e => (h5 r e).2.1 rfl
  have hpl := h.lt p h6
  have hvr : 0 < ks.length → ∀ k, v.ownBlock = some k → ¬ k = r := fun h0 k hk e => hvF h0 k hk (e ▸ h7)
  have H1 := Lib.hid h1
  have H2 := Lib.hid h2
  have H5 := Lib.hid h5
  have HV := Lib.hid hv
  have HVR := Lib.hid hvr
  have HQ3 := Lib.hid hq3
  have hQ63 : (d.Q.length : Int) ≤ 1000000000 := by omega
  have hL63 : (d.L.length : Int) ≤ 4096 := by omega
  clear h1 h2 h3 h5 hq3 h hv hvF hvr h6 h7
  go_enter Tryz.func18, Tryz.ntmps18
  go_wp2_with (first
    | (go_at_call 26; refine hsz.mono ?_; rintro e w2 ⟨rfl, hw2⟩; obtain rfl := hw2.symm; clear hw2)
    | fail)
  go_loopw [16] (fun iv wi => ∃ k : Nat, k ≤ d.Q.length ∧ iv = .int .i64 k ∧ LOut enS 128 78 0 wi (.slice (some ⟨r, 0, none⟩) d.L.length d.L.length) (crashL d.Q.length ks torn 0 (d.Q.take k) d.L) ∧ Mod (fun b => b = r) w wi) (fun iv _ => d.Q.length - (intOf iv).toNat)
  case atStart => exact ⟨0, Nat.zero_le _, rfl, H2.out, Mod.refl _ _⟩
  case round =>
    obtain ⟨k, hk, rfl, hO, hm⟩ := hrel
    by_cases hkl : k < d.Q.length
    · have hkl' : (k : Int) < (d.Q.length : Int) := by omega
      obtain ⟨⟨qi, qs⟩, hq⟩ : ∃ q, d.Q[k]? = some q := ⟨_, List.getElem?_eq_getElem hkl⟩
      have hqi : qi < d.L.length := (HQQ.out _ (List.mem_of_getElem? hq)).1
      have hqs : secB qs := (HQQ.out _ (List.mem_of_getElem? hq)).2
      obtain ⟨gq, go, rfl, hgl, hcq⟩ := HQ3.out (by omega)
      have hgr : ¬ gq = r := fun e => hqr (by rw [e]; rfl)
      have hlq := lies_mod (S := fun b => b = r) (hcq k _ hq) hm hgr
      have hlt2 := crashL_take d.Q.length ks torn d.Q d.L k _ hq
      have hb2 : Below wr.heap.size wr (wr.alloc (.cells (enQ (qi, qs)).toArray 80)) := (Below.refl _ _).alloc (Nat.le_refl _) _
      have hY : (wr.alloc (.cells (enQ (qi, qs)).toArray 80)).heap[wr.heap.size]? = some (.cells (enQ (qi, qs)).toArray 80 (0, 0)) := heap_alloc_at
      have hq0 := cell_of (o := 0) (v := .int .i64 qi) hY rfl
      have hql : Lies (wr.alloc (.cells (enQ (qi, qs)).toArray 80)) wr.heap.size 1 (enS qs).toArray := fun j hj => by
        refine cell_of hY ?_
        rw [List.getElem?_toArray, Nat.add_comm, enQ, List.getElem?_cons_succ]
        simp at hj ⊢
      have hp : (wr.alloc (.cells (enQ (qi, qs)).toArray 80)).heap[p]? = _ := (heap_alloc_lt (Nat.lt_of_lt_of_le hpl hm.size)).trans ((hm.block p hpl (fun e => h4 e.symm)).trans H1.out)
      have c0 := cell_of (o := 0) hp rfl
      have hO2 := hO.below hb2
      have hm2 : Mod (fun b => b = r) w (wr.alloc (.cells (enQ (qi, qs)).toArray 80)) := hm.alloc _
      have HLQ := Lib.hid hlq
      have HLT := Lib.hid hlt2
      have HO2 := Lib.hid hO2
      have HM2 := Lib.hid hm2
      have HP := Lib.hid hp
      have HWS : Hid (r < wr.heap.size) := Lib.hid (by have := hO.lt (r := r) rfl; exact this)
      clear hq hcq hlq hlt2 hY hp hO hm hO2 hm2 hb2
      go_upto_region 4 with (first
        | ((with_reducible refine wpList_loadA (aggQ (qi, qs)).toAggT HLQ.out ?_ ?_); rfl; go_frame)
        | ((with_reducible refine wpList_storeA_new (aggQ (qi, qs)).toAggT (zcQ (qi, qs)) (all_one (enQ_one (qi, qs))) ?_ ?_ ?_); rfl; rfl; go_frame)
        | fail)
      generalize wr.alloc (.cells (enQ (qi, qs)).toArray 80) = w3 at *
      have hS : w3.drew.cell? ⟨p, 0, none⟩ = some (.slice (some ⟨r, 0, none⟩) d.L.length d.L.length) ∧ w3.drew.cell? ⟨wr.heap.size, 0, none⟩ = some (.int .i64 qi) := ⟨c0, hq0⟩
      refine wp_region_x (fun w' => w'.cell? ⟨p, 0, none⟩ = some (.slice (some ⟨r, 0, none⟩) d.L.length d.L.length) ∧ w'.cell? ⟨wr.heap.size, 0, none⟩ = some (.int .i64 qi)) [(0, 1), (1, 1), (2, 1), (3, 0), (4, 1), (5, 0), (6, 1), (7, 1), (8, 1), (9, 1), (10, 1), (13, 1), (14, 1), (11, 2), (12, 1), (15, 2)] (by kernel_rfl) (by kernel_rfl) (by intro d v c a w h; cases d <;> exact h) ?_
      have hqi0 : (0 : Int) ≤ (qi : Int) := by omega
      have hqi' : (qi : Int) < (d.L.length : Int) := by omega
      iterate 3 (refine x_take rfl (fun K hK => ?_); go_simp; refine hK _ ?_; clear hK K)
      refine x_read rfl hS (fun w' h => exec_load1 ⟨⟨_, Tryz.underlying59, rfl⟩⟩ rfl h.1) ?_
      iterate 1 (refine x_take rfl (fun K hK => ?_); go_simp; refine hK _ ?_; clear hK K)
      refine x_read rfl hS (fun w' h => exec_load1 ⟨⟨_, Tryz.underlying3, rfl⟩⟩ rfl h.2) ?_
      iterate 7 (refine x_take rfl (fun K hK => ?_); go_simp; refine hK _ ?_; clear hK K)
      refine x_show' rfl (fun K hK => ?_)
      go_simp
      refine (kept_any (w := w3.drew) HP.out hsm k hkl v ks (LSl.modE HV.out HM2.out.drew HVR.out) torn).mono ?_
      rintro e w4 ⟨rfl, hw4⟩
      obtain rfl := hw4.symm
      refine hK _ _ hS ?_
      clear hK K hw4
      have hkn := keptN_le d.Q.length k ks torn
      have hkn' : ((keptN d.Q.length k ks torn : Nat) : Int) ≤ 128 := by omega
      obtain ⟨w5, hcp, hO5, hm5⟩ := copy_torn (m := keptN d.Q.length k ks torn) (c := 128) (HO2.out.below (Below.refl _ _).drew) (i := qi) (by rw [crashL_len]; exact hqi) (crashL_sec _ _ _ (fun q hq => HQQ.out q (List.mem_of_mem_take hq)) rfl HSEC.out) hkn hqs hql (by have := HWS.out; omega)
      have HS5 := Lib.hid (And.intro (cell_mod (S := fun b => b = r) hS.1 hm5 (fun e => h4 e.symm)) (cell_mod (S := fun b => b = r) hS.2 hm5 (fun e => by have := HWS.out; omega)))
      rw [← HLT.out] at hO5
      have HO5 := Lib.hid hO5
      have HM5 : Hid (Mod (fun b => b = r) w w5) := Lib.hid (HM2.out.drew.trans hm5 (fun _ h => h) (fun _ _ h => h))
      iterate 1 (refine x_take rfl (fun K hK => ?_); go_simp; refine hK _ ?_; clear hK K)
      refine x_show rfl (hcp _ _ _ _ _ _ _ _ rfl rfl) HS5.out ?_
      refine x_nil ?_
      clear hcp hO5 hm5 hS c0 hq0 hql
      go_wp2
      go_roundw
      case rel => exact ⟨k + 1, by omega, by go_num, HO5.out, HM5.out⟩
      case measure => simp [intOf]; omega
    · obtain rfl : k = d.Q.length := by omega
      rw [List.take_length] at hO
      have hp : wr.heap[p]? = _ := (hm.block p hpl (fun e => h4 e.symm)).trans H1.out
      have hc1 := cell_of (o := 1) hp rfl
      have hc3 := cell_of (o := 3) hp rfl
      have hc4 := cell_of (o := 4) hp rfl
      have hf1 := free_of (o := 1) hp
      have hf3 := free_of (o := 3) hp
      have hf4 := free_of (o := 4) hp
      have hfin : DAt (((wr.setCell ⟨p, 1, none⟩ (.slice none 0 0)).setCell ⟨p, 3, none⟩ (.bool false)).setCell ⟨p, 4, none⟩ (.bool false)) F p (d.crash ks torn) ∧ Mod F w (((wr.setCell ⟨p, 1, none⟩ (.slice none 0 0)).setCell ⟨p, 3, none⟩ (.bool false)).setCell ⟨p, 4, none⟩ (.bool false)) := by
        have hm4 : Mod (fun b => b = p) wr (((wr.setCell ⟨p, 1, none⟩ (.slice none 0 0)).setCell ⟨p, 3, none⟩ (.bool false)).setCell ⟨p, 4, none⟩ (.bool false)) := Mod.setCell (S := fun b => b = p) (Mod.setCell (S := fun b => b = p) (Mod.setCell (S := fun b => b = p) (Mod.refl _ _) _ _ fun _ => rfl) _ _ fun _ => rfl) _ _ fun _ => rfl
        have hh := heap_setCell_at (o := 4) (v := .bool false) (heap_setCell_at (o := 3) (v := .bool false) (heap_setCell_at (o := 1) (v := .slice none 0 0) hp))
        refine ⟨⟨HOK.out, ⟨r, .slice none 0 0, ?_, ?_, LOut.nil (Nat.zero_le _), h4, (fun k hk => by cases hk), HFP.out, HFR.out⟩, ?_⟩, hm.trans (T := F) hm4 (fun x hx => by rw [hx]; exact HFR.out) (fun x _ hx => by rw [hx]; exact HFP.out)⟩
        · rw [crash_L]
          exact hh
        · rw [crash_L]
          exact hO.kept hm4.size fun k hk => by cases hk; exact hm4.block r (hO.lt rfl) h4
        · intro b hb
          exact Nat.lt_of_lt_of_le (Nat.lt_of_lt_of_le (HLF.out b hb) hm.size) hm4.size
      have HFIN := Lib.hid hfin
      clear hO hm hp hfin
      go_wp2
      (try simp only [Exit.inBlock, Exit.then]); refine bodyPost_end (results_none rfl _ _ _) rfl ?_
      exact ⟨rfl, HFIN.out.1, HFIN.out.2⟩
end Go.Proofs.YtipbaajdnnddgaaGreat

/- The rows, and the program's knob. -/
namespace Go.Proofs.YtipbaajdnnddgaaGreat
open Go.RowKit
theorem Tryz.own : ownKnob Tryz.prog.godebug = none := by kernel_rfl
theorem Tryz.laidOut : laidOutB Tryz.prog = true := by kernel_rfl
end Go.Proofs.YtipbaajdnnddgaaGreat

/- A call of a vault's, no fuse. -/
namespace Go.Tn.Ino
instance (r : Rec) (c : Int) (s : Nat) : Decidable (sesOk r c s) := by unfold sesOk; infer_instance
instance (r : Rec) (c : Int) : Decidable (holOk r c) := by unfold holOk; infer_instance
/-- The records behind the calls. -/
def sesR (r : Rec) (c : Int) (k : Nat) : Rec := if sesOk r c k then r.with_ c.toNat k false else r
def holR (r : Rec) (c : Int) (b : Bool) : Rec := if holOk r c then r.with_ c.toNat (r.ses c.toNat) b else r
theorem with_same {r : Rec} {c : Nat} (h : r.cl.length = 8) (hc : c < 8) : r.with_ c (r.ses c) (r.hol c) = r := by
  obtain ⟨b, cl⟩ := r
  unfold Rec.with_
  have hg := Rec.get_cl (r := ⟨b, cl⟩) h hc
  simp only at hg ⊢
  congr 1
  apply List.ext_getElem?
  intro j
  rw [List.getElem?_set]
  by_cases hj : c = j
  · subst hj
    rw [if_pos rfl, hg, if_pos (by have : cl.length = 8 := h; omega)]
  · rw [if_neg hj]
end Go.Tn.Ino
namespace Go.Proofs.YtipbaajdnnddgaaGreat
open Go.RowKit Go.Tn Go.Tn.Bt Go.Tn.Lp Go.Tn.Dk Go.Tn.Ino
section
variable {w w' : World} {F FD : Nat → Prop} {v s g p : Nat} {i : Nat} {l : Lg} {d : Dsk} {r : Rec}
theorem VPost.stay (h : VAt w F FD v s g p l d r) (cd : Nat) : VPost w F FD v s g p (l, d, cd) r (.returned (.int .i64 (cd : Nat))) w :=
  ⟨rfl, F, FD, h, Mod.refl _ _, fun b h => .inl h, fun b h => .inl h⟩
theorem vses_step (hV : VAt w F FD v s g p l d r) (hI : VInv i l d r) (hi : i ≤ 900) (hq : Quiet d) (hQ : d.Q = []) (c : Int) (k : Nat) (hk : k < 18446744073709551616) (hc63 : -9223372036854775808 ≤ c ∧ c < 9223372036854775808) :
    ∃ l' d' cd, VInv (i + 2) l' d' (sesR r c k) ∧ Quiet d' ∧ d'.Q = [] ∧ Calls Tryz.prog 9 #[.pointer (some ⟨v, 0, none⟩), .int .i64 c, .int .u64 k] w fun e w' => VPost w F FD v s g p (l', d', cd) (sesR r c k) e w' := by
  unfold sesR
  by_cases h : sesOk r c k
  · rw [if_pos h]
    obtain ⟨h1, h2, h3, h4⟩ := h
    obtain ⟨c, rfl⟩ := Int.eq_ofNat_of_zero_le h1
    rw [Int.toNat_natCast] at h3 ⊢
    obtain ⟨l', d', e1, e2, e3, e4, e5⟩ := hI.put hi hq (by rw [hQ]; decide) (r.with_ c k false) (with_fits hI.fits (by omega)) (with_right hI.right (by omega))
    refine ⟨l', d', 0, e2, e3, e4, ?_⟩
    have := vsetsession_ok hV (hI.ok hi) hI.right c k (by omega) h3 h4 (by rw [hQ]; decide) e5
    rw [e1] at this
    exact this
  · rw [if_neg h]
    refine ⟨l, d, 2, hI.mono (by omega), hq, hQ, (vsetsession_no hV c k hk hc63 h).mono ?_⟩
    rintro e w' ⟨rfl, rfl⟩
    exact VPost.stay hV 2
theorem vhol_step (hV : VAt w F FD v s g p l d r) (hI : VInv i l d r) (hi : i ≤ 900) (hq : Quiet d) (hQ : d.Q = []) (c : Int) (b : Bool) (hc63 : -9223372036854775808 ≤ c ∧ c < 9223372036854775808) :
    ∃ l' d' cd, VInv (i + 2) l' d' (holR r c b) ∧ Quiet d' ∧ d'.Q = [] ∧ Calls Tryz.prog 10 #[.pointer (some ⟨v, 0, none⟩), .int .i64 c, .bool b] w fun e w' => VPost w F FD v s g p (l', d', cd) (holR r c b) e w' := by
  unfold holR
  by_cases h : holOk r c
  · rw [if_pos h]
    obtain ⟨h1, h2, h3⟩ := h
    obtain ⟨c, rfl⟩ := Int.eq_ofNat_of_zero_le h1
    rw [Int.toNat_natCast] at h3 ⊢
    have hc8 : c < 8 := by omega
    by_cases hb : r.hol c = b
    · subst hb
      rw [with_same hI.fits.len hc8]
      refine ⟨l, d, 0, hI.mono (by omega), hq, hQ, (vsetholds_same hV c hc8 h3).mono ?_⟩
      rintro e w' ⟨rfl, rfl⟩
      exact VPost.stay hV 0
    · have hs40 : r.ses c < 1099511627776 := hI.fits.cl _ (List.mem_of_getElem? (Rec.get_cl hI.fits.len hc8))
      obtain ⟨l', d', e1, e2, e3, e4, e5⟩ := hI.put hi hq (by rw [hQ]; decide) (r.with_ c (r.ses c) b) (with_fits hI.fits hs40) (with_right hI.right h3)
      refine ⟨l', d', 0, e2, e3, e4, ?_⟩
      have := vsetholds_ok hV (hI.ok hi) hI.right c b hc8 h3 hb (by rw [hQ]; decide) e5
      rw [e1] at this
      exact this
  · rw [if_neg h]
    refine ⟨l, d, 2, hI.mono (by omega), hq, hQ, (vsetholds_no hV c b hc63 h).mono ?_⟩
    rintro e w' ⟨rfl, rfl⟩
    exact VPost.stay hV 2
end
/-- Sessions rise. -/
theorem ses_rises {r : Rec} (h : r.fits) (c : Int) (k : Nat) (j : Nat) (hj : j < 8) : (sesR r c k).ses j = r.ses j ∧ (sesR r c k).hol j = r.hol j ∨ (j : Int) = c ∧ r.ses j < (sesR r c k).ses j ∧ (sesR r c k).hol j = false := by
  unfold sesR
  by_cases h0 : sesOk r c k
  · rw [if_pos h0]
    obtain ⟨h1, h2, h3, h4⟩ := h0
    obtain ⟨c, rfl⟩ := Int.eq_ofNat_of_zero_le h1
    rw [Int.toNat_natCast] at *
    by_cases hc : c = j
    · subst hc
      have e : (r.with_ c k false).cl[c]? = some (k, false) := by
        show (r.cl.set c (k, false))[c]? = _
        rw [List.getElem?_set, if_pos rfl, if_pos (by rw [h.len]; exact hj)]
      refine .inr ⟨rfl, ?_, ?_⟩
      · unfold Rec.ses at *
        rw [e]
        exact h3
      · unfold Rec.hol
        rw [e]
        rfl
    · have e : (r.with_ c k false).cl[j]? = r.cl[j]? := by
        show (r.cl.set c (k, false))[j]? = _
        rw [List.getElem?_set, if_neg hc]
      refine .inl ⟨?_, ?_⟩
      · unfold Rec.ses
        rw [e]
      · unfold Rec.hol
        rw [e]
  · rw [if_neg h0]
    exact .inl ⟨rfl, rfl⟩
theorem hol_rises {r : Rec} (h : r.fits) (c : Int) (b : Bool) (j : Nat) (hj : j < 8) : (holR r c b).ses j = r.ses j ∧ ((holR r c b).hol j = r.hol j ∨ (j : Int) = c) := by
  unfold holR
  by_cases h0 : holOk r c
  · rw [if_pos h0]
    obtain ⟨h1, h2, h3⟩ := h0
    obtain ⟨c, rfl⟩ := Int.eq_ofNat_of_zero_le h1
    rw [Int.toNat_natCast] at *
    generalize hq : r.ses c = q at *
    by_cases hc : c = j
    · subst hc
      have e : (r.with_ c q b).cl[c]? = some (q, b) := by
        show (r.cl.set c (q, b))[c]? = _
        rw [List.getElem?_set, if_pos rfl, if_pos (by rw [h.len]; exact hj)]
      refine ⟨?_, .inr rfl⟩
      rw [hq]
      unfold Rec.ses
      rw [e]
      rfl
    · have e : (r.with_ c q b).cl[j]? = r.cl[j]? := by
        show (r.cl.set c (q, b))[j]? = _
        rw [List.getElem?_set, if_neg hc]
      refine ⟨?_, .inl ?_⟩
      · unfold Rec.ses
        rw [e]
      · unfold Rec.hol
        rw [e]
  · rw [if_neg h0]
    exact ⟨rfl, .inl rfl⟩
end Go.Proofs.YtipbaajdnnddgaaGreat

/- The document's record: plain; SetSession, SetHolds of it: walked. -/
namespace Go.Proofs.YtipbaajdnnddgaaGreat
open Go.RowKit Go.Tn Go.Tn.Bt Go.Tn.Lp Go.Tn.Dk Go.Tn.Ino
def docL (b : Nat) (s : Nat → Nat) (h : Nat → Bool) : List Value := .int .u64 (b : Nat) :: ((List.range 8).map (fun j => .int .u64 (s j : Nat)) ++ (List.range 8).map (fun j => .bool (h j)))
/-- The cells of the document's record. -/
def docF (b : Nat) (s : Nat → Nat) (h : Nat → Bool) : Array Value := (docL b s h).toArray
def docC (r : Rec) : Array Value := docF r.boot r.ses r.hol
section
variable {b : Nat} {s : Nat → Nat} {h : Nat → Bool}
theorem docF_get (i : Nat) : (docF b s h)[i]? = if i = 0 then some (.int .u64 (b : Nat)) else if i < 9 then some (.int .u64 (s (i - 1) : Nat)) else if i < 17 then some (.bool (h (i - 9))) else none := by
  match i with
  | 0 => rfl
  | 1 => rfl
  | 2 => rfl
  | 3 => rfl
  | 4 => rfl
  | 5 => rfl
  | 6 => rfl
  | 7 => rfl
  | 8 => rfl
  | 9 => rfl
  | 10 => rfl
  | 11 => rfl
  | 12 => rfl
  | 13 => rfl
  | 14 => rfl
  | 15 => rfl
  | 16 => rfl
  | n + 17 =>
    rw [Array.getElem?_eq_none (show 17 ≤ n + 17 by omega), if_neg (by omega), if_neg (by omega), if_neg (by omega)]
theorem docF_size : (docF b s h).size = 17 := rfl
theorem docF_s {j : Nat} (hj : j < 8) : (docF b s h)[1 + j]? = some (.int .u64 (s j : Nat)) := by
  rw [docF_get, if_neg (by omega), if_pos (by omega), Nat.add_sub_cancel_left]
theorem docF_h {j : Nat} (hj : j < 8) : (docF b s h)[9 + j]? = some (.bool (h j)) := by
  rw [docF_get, if_neg (by omega), if_neg (by omega), if_pos (by omega), Nat.add_sub_cancel_left]
theorem docF_congr {s' : Nat → Nat} {h' : Nat → Bool} (hs : ∀ j, j < 8 → s j = s' j) (hh : ∀ j, j < 8 → h j = h' j) : docF b s h = docF b s' h' := by
  apply Array.ext_getElem?
  intro i
  rw [docF_get, docF_get]
  by_cases h0 : i = 0
  · rw [if_pos h0, if_pos h0]
  rw [if_neg h0, if_neg h0]
  by_cases h9 : i < 9
  · rw [if_pos h9, if_pos h9, hs _ (by omega)]
  rw [if_neg h9, if_neg h9]
  by_cases h17 : i < 17
  · rw [if_pos h17, if_pos h17, hh _ (by omega)]
  rw [if_neg h17, if_neg h17]
theorem docF_setB (k : Nat) : (docF b s h).setIfInBounds 0 (.int .u64 (k : Nat)) = docF k s h := rfl
theorem docF_setS {c : Nat} (hc : c < 8) (k : Nat) : (docF b s h).setIfInBounds (1 + c) (.int .u64 (k : Nat)) = docF b (fun j => if j = c then k else s j) h := by
  apply Array.ext_getElem?
  intro i
  rw [Array.getElem?_setIfInBounds, docF_get, docF_get, docF_size]
  by_cases hi : 1 + c = i
  · subst hi
    rw [if_pos rfl, if_pos (by omega), if_neg (by omega), if_pos (by omega), Nat.add_sub_cancel_left, if_pos rfl]
  · rw [if_neg hi]
    by_cases h0 : i = 0
    · rw [if_pos h0, if_pos h0]
    rw [if_neg h0, if_neg h0]
    by_cases h9 : i < 9
    · rw [if_pos h9, if_pos h9, if_neg (by omega)]
    rw [if_neg h9, if_neg h9]
theorem docF_setH {c : Nat} (hc : c < 8) (k : Bool) : (docF b s h).setIfInBounds (9 + c) (.bool k) = docF b s (fun j => if j = c then k else h j) := by
  apply Array.ext_getElem?
  intro i
  rw [Array.getElem?_setIfInBounds, docF_get, docF_get, docF_size]
  by_cases hi : 9 + c = i
  · subst hi
    rw [if_pos rfl, if_pos (by omega), if_neg (by omega), if_neg (by omega), if_pos (by omega), Nat.add_sub_cancel_left, if_pos rfl]
  · rw [if_neg hi]
    by_cases h0 : i = 0
    · rw [if_pos h0, if_pos h0]
    rw [if_neg h0, if_neg h0]
    by_cases h9 : i < 9
    · rw [if_pos h9, if_pos h9]
    rw [if_neg h9, if_neg h9]
    by_cases h17 : i < 17
    · rw [if_pos h17, if_pos h17, if_neg (by omega)]
    rw [if_neg h17, if_neg h17]
theorem docF_one : (docF b s h).all (·.oneCell') = true := by
  rw [Array.all_eq_true']
  intro u hu
  simp only [docF, List.mem_toArray, docL] at hu
  rcases List.mem_cons.1 hu with rfl | hu
  · rfl
  · rcases List.mem_append.1 hu with hu | hu
    · obtain ⟨c, -, rfl⟩ := List.mem_map.1 hu
      rfl
    · obtain ⟨c, -, rfl⟩ := List.mem_map.1 hu
      rfl
theorem aggD : AggT Tryz.prog 53 (docF b s h).size := ⟨⟨_, Tryz.underlying53, rfl⟩, by rw [docF_size]; kernel_rfl⟩
end
theorem docF_z : docF 0 (fun _ => 0) (fun _ => false) = #[.int .u64 0, .int .u64 0, .int .u64 0, .int .u64 0, .int .u64 0, .int .u64 0, .int .u64 0, .int .u64 0, .int .u64 0, .bool false, .bool false, .bool false, .bool false, .bool false, .bool false, .bool false, .bool false] := rfl
/-- A record with another client. -/
theorem docC_with {r : Rec} (hl : r.cl.length = 8) {c : Nat} (hc : c < 8) (k : Nat) (q : Bool) : docC (r.with_ c k q) = docF r.boot (fun j => if j = c then k else r.ses j) (fun j => if j = c then q else r.hol j) := by
  unfold docC
  have e : ∀ j, (r.with_ c k q).cl[j]? = if j = c then some (k, q) else r.cl[j]? := fun j => by
    show (r.cl.set c (k, q))[j]? = _
    rw [List.getElem?_set]
    by_cases hj : j = c
    · subst hj
      rw [if_pos rfl, if_pos rfl, if_pos (by omega)]
    · rw [if_neg (fun e => hj e.symm), if_neg hj]
  refine docF_congr (fun j _ => ?_) (fun j _ => ?_)
  · unfold Rec.ses
    rw [e]
    by_cases hj : j = c
    · rw [if_pos hj, if_pos hj]; rfl
    · rw [if_neg hj, if_neg hj]
  · unfold Rec.hol
    rw [e]
    by_cases hj : j = c
    · rw [if_pos hj, if_pos hj]; rfl
    · rw [if_neg hj, if_neg hj]
theorem docC_hold {r : Rec} (hl : r.cl.length = 8) {c : Nat} (hc : c < 8) (q : Bool) : docC (r.with_ c (r.ses c) q) = docF r.boot r.ses (fun j => if j = c then q else r.hol j) := by
  rw [docC_with hl hc]
  refine docF_congr (fun j _ => ?_) (fun j _ => rfl)
  by_cases hj : j = c
  · rw [if_pos hj, hj]
  · rw [if_neg hj]
section
variable {w : World} {r : Rec}
set_option maxRecDepth 20000 in
set_option maxHeartbeats 4000000 in
theorem rses_no (c : Int) (k : Nat) (hk : k < 18446744073709551616) (hc63 : -9223372036854775808 ≤ c ∧ c < 9223372036854775808) (hn : ¬ sesOk r c k) : Calls Tryz.prog 27 #[.agg (docC r), .int .i64 c, .int .u64 k] w
    fun e w' => e = .returned (.tuple #[.agg (docC r), .int .i64 2]) ∧ Below w.heap.size w w' := by
  have hbx : (w.alloc (.cells (docC r) 53)).heap[w.heap.size]? = some (.cells (docC r) 53 (0, 0)) := heap_alloc_at
  have hb1 : Below w.heap.size w (w.alloc (.cells (docC r) 53)) := (Below.refl _ _).alloc (Nat.le_refl _) _
  have hz1 : (w.alloc (.cells (docC r) 53)).heap.size = w.heap.size + 1 := by simp
  generalize hw1 : w.alloc (.cells (docC r) 53) = w1 at hbx hb1 hz1
  have hbz : (w1.alloc (.cells (docF 0 (fun _ => 0) (fun _ => false)) 53)).heap[w1.heap.size]? = some (.cells (docF 0 (fun _ => 0) (fun _ => false)) 53 (0, 0)) := heap_alloc_at
  have hb2 : Below w1.heap.size w1 (w1.alloc (.cells (docF 0 (fun _ => 0) (fun _ => false)) 53)) := (Below.refl _ _).alloc (Nat.le_refl _) _
  generalize hw2 : w1.alloc (.cells (docF 0 (fun _ => 0) (fun _ => false)) 53) = w2 at hbz hb2
  rw [docF_z] at hw2
  have hbx2 := (hb2.block w.heap.size (by omega)).trans hbx
  have HB : Hid (Below w.heap.size w w2) := Lib.hid (hb1.trans (hb2.mono (by omega)))
  have HZ1 := Lib.hid hz1
  have haD := aggD (b := r.boot) (s := r.ses) (h := r.hol)
  have honD := docF_one (b := r.boot) (s := r.ses) (h := r.hol)
  have hLD := lies_of hbx2
  unfold docC at hLD hw1 hbx2 ⊢
  clear hbx hb1 hb2 hz1
  by_cases hc : 0 ≤ c ∧ c < 8
  · obtain ⟨c, rfl⟩ := Int.eq_ofNat_of_zero_le hc.1
    have hc8 : c < 8 := by omega
    have hc8' : (c : Int) < 8 := by omega
    have q : w2.cell? ⟨w.heap.size, 1 + c, none⟩ = some (.int .u64 (r.ses c : Nat)) := cell_of hbx2 (docF_s hc8)
    have hkk : k ≤ r.ses c ∨ 1099511627775 < k := by
      unfold sesOk at hn
      rw [Int.toNat_natCast] at hn
      omega
    clear hn hc hbx2
    generalize r.ses c = sc at q hkk
    by_cases h1 : k ≤ sc
    · have d1 : decide (k ≤ sc) = true := decide_eq_true (by omega)
      clear hkk
      go_enter Tryz.func27, Tryz.ntmps27
      go_upto_region 1 with fail
      clear hw1 hw2
      go_wp2_with
        (first
          | ((with_reducible refine wpList_loadA haD hLD ?_ ?_); rfl; go_frame)
          | ((with_reducible refine wpList_storeB haD ?_ ?_ hbz rfl honD ?_); rfl; rfl; (intro w9 hh9 hm9; have HH9 := Lib.hid hh9; have HM9 := Lib.hid hm9; clear hh9 hm9); go_frame)
          | fail)
      refine bodyPost_ret (results_cellT rfl _ rfl haD (lies_of HH9.out)) rfl ?_
      exact ⟨rfl, HB.out.trans (HM9.out.below HB.out.size fun x hx e => by have := HZ1.out; omega)⟩
    · have d1 : decide (k ≤ sc) = false := decide_eq_false (by omega)
      have h2 : (1099511627775 : Int) < (k : Int) := by omega
      clear hkk h1
      go_enter Tryz.func27, Tryz.ntmps27
      go_upto_region 1 with fail
      clear hw1 hw2
      go_wp2_with
        (first
          | ((with_reducible refine wpList_loadA haD hLD ?_ ?_); rfl; go_frame)
          | ((with_reducible refine wpList_storeB haD ?_ ?_ hbz rfl honD ?_); rfl; rfl; (intro w9 hh9 hm9; have HH9 := Lib.hid hh9; have HM9 := Lib.hid hm9; clear hh9 hm9); go_frame)
          | fail)
      refine bodyPost_ret (results_cellT rfl _ rfl haD (lies_of HH9.out)) rfl ?_
      exact ⟨rfl, HB.out.trans (HM9.out.below HB.out.size fun x hx e => by have := HZ1.out; omega)⟩
  · clear hn hbx2
    by_cases h0 : c < 0
    · clear hc
      go_enter Tryz.func27, Tryz.ntmps27
      go_upto_region 1 with fail
      clear hw1 hw2
      go_wp2_with
        (first
          | ((with_reducible refine wpList_loadA haD hLD ?_ ?_); rfl; go_frame)
          | ((with_reducible refine wpList_storeB haD ?_ ?_ hbz rfl honD ?_); rfl; rfl; (intro w9 hh9 hm9; have HH9 := Lib.hid hh9; have HM9 := Lib.hid hm9; clear hh9 hm9); go_frame)
          | fail)
      refine bodyPost_ret (results_cellT rfl _ rfl haD (lies_of HH9.out)) rfl ?_
      exact ⟨rfl, HB.out.trans (HM9.out.below HB.out.size fun x hx e => by have := HZ1.out; omega)⟩
    · have h8 : 8 ≤ c := by omega
      have h0' : 0 ≤ c := by omega
      clear hc h0
      go_enter Tryz.func27, Tryz.ntmps27
      go_upto_region 1 with fail
      clear hw1 hw2
      go_wp2_with
        (first
          | ((with_reducible refine wpList_loadA haD hLD ?_ ?_); rfl; go_frame)
          | ((with_reducible refine wpList_storeB haD ?_ ?_ hbz rfl honD ?_); rfl; rfl; (intro w9 hh9 hm9; have HH9 := Lib.hid hh9; have HM9 := Lib.hid hm9; clear hh9 hm9); go_frame)
          | fail)
      refine bodyPost_ret (results_cellT rfl _ rfl haD (lies_of HH9.out)) rfl ?_
      exact ⟨rfl, HB.out.trans (HM9.out.below HB.out.size fun x hx e => by have := HZ1.out; omega)⟩
set_option maxRecDepth 20000 in
set_option maxHeartbeats 4000000 in
theorem rses_ok (hl : r.cl.length = 8) (c : Nat) (hc8 : c < 8) (k : Nat) (hk0 : r.ses c < k) (hk1 : k ≤ 1099511627775) : Calls Tryz.prog 27 #[.agg (docC r), .int .i64 c, .int .u64 k] w
    fun e w' => e = .returned (.tuple #[.agg (docC (r.with_ c k false)), .int .i64 0]) ∧ Below w.heap.size w w' := by
  rw [docC_with hl hc8]
  have hbx : (w.alloc (.cells (docC r) 53)).heap[w.heap.size]? = some (.cells (docC r) 53 (0, 0)) := heap_alloc_at
  have hb1 : Below w.heap.size w (w.alloc (.cells (docC r) 53)) := (Below.refl _ _).alloc (Nat.le_refl _) _
  have hz1 : (w.alloc (.cells (docC r) 53)).heap.size = w.heap.size + 1 := by simp
  generalize hw1 : w.alloc (.cells (docC r) 53) = w1 at hbx hb1 hz1
  have hbz : (w1.alloc (.cells (docF 0 (fun _ => 0) (fun _ => false)) 53)).heap[w1.heap.size]? = some (.cells (docF 0 (fun _ => 0) (fun _ => false)) 53 (0, 0)) := heap_alloc_at
  have hb2 : Below w1.heap.size w1 (w1.alloc (.cells (docF 0 (fun _ => 0) (fun _ => false)) 53)) := (Below.refl _ _).alloc (Nat.le_refl _) _
  generalize hw2 : w1.alloc (.cells (docF 0 (fun _ => 0) (fun _ => false)) 53) = w2 at hbz hb2
  rw [docF_z] at hw2
  have hbx2 := (hb2.block w.heap.size (by omega)).trans hbx
  have HB : Hid (Below w.heap.size w w2) := Lib.hid (hb1.trans (hb2.mono (by omega)))
  have HZ1 := Lib.hid hz1
  unfold docC at hw1 hbx2 ⊢
  clear hbx hb1 hb2 hz1
  have q : w2.cell? ⟨w.heap.size, 1 + c, none⟩ = some (.int .u64 (r.ses c : Nat)) := cell_of hbx2 (docF_s hc8)
  have q2 : w2.cell? ⟨w.heap.size, 9 + c, none⟩ = some (.bool (r.hol c)) := cell_of hbx2 (docF_h hc8)
  have f1 : w2.frozen? ⟨w.heap.size, 1 + c, none⟩ = false := free_of hbx2
  have f2 : w2.frozen? ⟨w.heap.size, 9 + c, none⟩ = false := free_of hbx2
  have hm := ((Mod.refl (fun x => x = w.heap.size) w2).setCell ⟨w.heap.size, 1 + c, none⟩ (.int .u64 (k : Nat)) (fun _ => rfl)).setCell ⟨w.heap.size, 9 + c, none⟩ (.bool false) (fun _ => rfl)
  have hbk : ((w2.setCell ⟨w.heap.size, 1 + c, none⟩ (.int .u64 (k : Nat))).setCell ⟨w.heap.size, 9 + c, none⟩ (.bool false)).heap[w.heap.size]? = some (.cells (docF r.boot (fun j => if j = c then k else r.ses j) (fun j => if j = c then false else r.hol j)) 53 (0, 0)) := by
    rw [heap_setCell_at (heap_setCell_at hbx2), docF_setS hc8, docF_setH hc8]
  have hbr := hm.heap hbz (by have := HZ1.out; omega)
  have hc8' : (c : Int) < 8 := by omega
  generalize (fun j => if j = c then k else r.ses j) = ss at *
  generalize (fun j => if j = c then false else r.hol j) = hh at *
  generalize r.ses c = sc at q hk0
  have d1 : decide (k ≤ sc) = false := decide_eq_false (by omega)
  have d2 : (k : Int) ≤ 1099511627775 := by omega
  have haD := aggD (b := r.boot) (s := ss) (h := hh)
  have honD := docF_one (b := r.boot) (s := ss) (h := hh)
  have hLD := lies_of hbk
  have HM := Lib.hid hm
  clear hbk hm hbx2 hbz
  go_enter Tryz.func27, Tryz.ntmps27
  go_upto_region 1 with fail
  clear hw1 hw2
  go_wp2_with
    (first
      | ((with_reducible refine wpList_loadA haD hLD ?_ ?_); rfl; go_frame)
      | ((with_reducible refine wpList_storeB haD ?_ ?_ hbr rfl honD ?_); rfl; rfl; (intro w9 hh9 hm9; have HH9 := Lib.hid hh9; have HM9 := Lib.hid hm9; clear hh9 hm9); go_frame)
      | fail)
  refine bodyPost_ret (results_cellT rfl _ rfl haD (lies_of HH9.out)) rfl ?_
  exact ⟨rfl, HB.out.trans ((HM.out.below HB.out.size fun x hx e => by omega).trans (HM9.out.below (Nat.le_trans HB.out.size HM.out.size) fun x hx e => by have := HZ1.out; omega))⟩
set_option maxRecDepth 20000 in
set_option maxHeartbeats 4000000 in
theorem rhol_no (c : Int) (b : Bool) (hc63 : -9223372036854775808 ≤ c ∧ c < 9223372036854775808) (hn : ¬ holOk r c) : Calls Tryz.prog 28 #[.agg (docC r), .int .i64 c, .bool b] w
    fun e w' => e = .returned (.tuple #[.agg (docC r), .int .i64 2]) ∧ Below w.heap.size w w' := by
  have hbx : (w.alloc (.cells (docC r) 53)).heap[w.heap.size]? = some (.cells (docC r) 53 (0, 0)) := heap_alloc_at
  have hb1 : Below w.heap.size w (w.alloc (.cells (docC r) 53)) := (Below.refl _ _).alloc (Nat.le_refl _) _
  have hz1 : (w.alloc (.cells (docC r) 53)).heap.size = w.heap.size + 1 := by simp
  generalize hw1 : w.alloc (.cells (docC r) 53) = w1 at hbx hb1 hz1
  have hbz : (w1.alloc (.cells (docF 0 (fun _ => 0) (fun _ => false)) 53)).heap[w1.heap.size]? = some (.cells (docF 0 (fun _ => 0) (fun _ => false)) 53 (0, 0)) := heap_alloc_at
  have hb2 : Below w1.heap.size w1 (w1.alloc (.cells (docF 0 (fun _ => 0) (fun _ => false)) 53)) := (Below.refl _ _).alloc (Nat.le_refl _) _
  generalize hw2 : w1.alloc (.cells (docF 0 (fun _ => 0) (fun _ => false)) 53) = w2 at hbz hb2
  rw [docF_z] at hw2
  have hbx2 := (hb2.block w.heap.size (by omega)).trans hbx
  have HB : Hid (Below w.heap.size w w2) := Lib.hid (hb1.trans (hb2.mono (by omega)))
  have HZ1 := Lib.hid hz1
  have haD := aggD (b := r.boot) (s := r.ses) (h := r.hol)
  have honD := docF_one (b := r.boot) (s := r.ses) (h := r.hol)
  have hLD := lies_of hbx2
  unfold docC at hLD hw1 hbx2 ⊢
  clear hbx hb1 hb2 hz1
  by_cases hc : 0 ≤ c ∧ c < 8
  · obtain ⟨c, rfl⟩ := Int.eq_ofNat_of_zero_le hc.1
    have hc8 : c < 8 := by omega
    have hc8' : (c : Int) < 8 := by omega
    have q : w2.cell? ⟨w.heap.size, 1 + c, none⟩ = some (.int .u64 (r.ses c : Nat)) := cell_of hbx2 (docF_s hc8)
    have hkk : r.ses c = 0 := by
      unfold holOk at hn
      rw [Int.toNat_natCast] at hn
      omega
    rw [hkk] at q
    clear hn hc hbx2 hkk
    go_enter Tryz.func28, Tryz.ntmps28
    go_upto_region 1 with fail
    clear hw1 hw2
    go_wp2_with
      (first
        | ((with_reducible refine wpList_loadA haD hLD ?_ ?_); rfl; go_frame)
        | ((with_reducible refine wpList_storeB haD ?_ ?_ hbz rfl honD ?_); rfl; rfl; (intro w9 hh9 hm9; have HH9 := Lib.hid hh9; have HM9 := Lib.hid hm9; clear hh9 hm9); go_frame)
        | fail)
    refine bodyPost_ret (results_cellT rfl _ rfl haD (lies_of HH9.out)) rfl ?_
    exact ⟨rfl, HB.out.trans (HM9.out.below HB.out.size fun x hx e => by have := HZ1.out; omega)⟩
  · clear hn hbx2
    by_cases h0 : c < 0
    · clear hc
      go_enter Tryz.func28, Tryz.ntmps28
      go_upto_region 1 with fail
      clear hw1 hw2
      go_wp2_with
        (first
          | ((with_reducible refine wpList_loadA haD hLD ?_ ?_); rfl; go_frame)
          | ((with_reducible refine wpList_storeB haD ?_ ?_ hbz rfl honD ?_); rfl; rfl; (intro w9 hh9 hm9; have HH9 := Lib.hid hh9; have HM9 := Lib.hid hm9; clear hh9 hm9); go_frame)
          | fail)
      refine bodyPost_ret (results_cellT rfl _ rfl haD (lies_of HH9.out)) rfl ?_
      exact ⟨rfl, HB.out.trans (HM9.out.below HB.out.size fun x hx e => by have := HZ1.out; omega)⟩
    · have h8 : 8 ≤ c := by omega
      have h0' : 0 ≤ c := by omega
      clear hc h0
      go_enter Tryz.func28, Tryz.ntmps28
      go_upto_region 1 with fail
      clear hw1 hw2
      go_wp2_with
        (first
          | ((with_reducible refine wpList_loadA haD hLD ?_ ?_); rfl; go_frame)
          | ((with_reducible refine wpList_storeB haD ?_ ?_ hbz rfl honD ?_); rfl; rfl; (intro w9 hh9 hm9; have HH9 := Lib.hid hh9; have HM9 := Lib.hid hm9; clear hh9 hm9); go_frame)
          | fail)
      refine bodyPost_ret (results_cellT rfl _ rfl haD (lies_of HH9.out)) rfl ?_
      exact ⟨rfl, HB.out.trans (HM9.out.below HB.out.size fun x hx e => by have := HZ1.out; omega)⟩
set_option maxRecDepth 20000 in
set_option maxHeartbeats 4000000 in
theorem rhol_ok (hl : r.cl.length = 8) (c : Nat) (hc8 : c < 8) (b : Bool) (h0 : r.ses c ≠ 0) : Calls Tryz.prog 28 #[.agg (docC r), .int .i64 c, .bool b] w
    fun e w' => e = .returned (.tuple #[.agg (docC (r.with_ c (r.ses c) b)), .int .i64 0]) ∧ Below w.heap.size w w' := by
  rw [docC_hold hl hc8]
  have hbx : (w.alloc (.cells (docC r) 53)).heap[w.heap.size]? = some (.cells (docC r) 53 (0, 0)) := heap_alloc_at
  have hb1 : Below w.heap.size w (w.alloc (.cells (docC r) 53)) := (Below.refl _ _).alloc (Nat.le_refl _) _
  have hz1 : (w.alloc (.cells (docC r) 53)).heap.size = w.heap.size + 1 := by simp
  generalize hw1 : w.alloc (.cells (docC r) 53) = w1 at hbx hb1 hz1
  have hbz : (w1.alloc (.cells (docF 0 (fun _ => 0) (fun _ => false)) 53)).heap[w1.heap.size]? = some (.cells (docF 0 (fun _ => 0) (fun _ => false)) 53 (0, 0)) := heap_alloc_at
  have hb2 : Below w1.heap.size w1 (w1.alloc (.cells (docF 0 (fun _ => 0) (fun _ => false)) 53)) := (Below.refl _ _).alloc (Nat.le_refl _) _
  generalize hw2 : w1.alloc (.cells (docF 0 (fun _ => 0) (fun _ => false)) 53) = w2 at hbz hb2
  rw [docF_z] at hw2
  have hbx2 := (hb2.block w.heap.size (by omega)).trans hbx
  have HB : Hid (Below w.heap.size w w2) := Lib.hid (hb1.trans (hb2.mono (by omega)))
  have HZ1 := Lib.hid hz1
  unfold docC at hw1 hbx2 ⊢
  clear hbx hb1 hb2 hz1
  have q : w2.cell? ⟨w.heap.size, 1 + c, none⟩ = some (.int .u64 (r.ses c : Nat)) := cell_of hbx2 (docF_s hc8)
  have q2 : w2.cell? ⟨w.heap.size, 9 + c, none⟩ = some (.bool (r.hol c)) := cell_of hbx2 (docF_h hc8)
  have f2 : w2.frozen? ⟨w.heap.size, 9 + c, none⟩ = false := free_of hbx2
  have hm := (Mod.refl (fun x => x = w.heap.size) w2).setCell ⟨w.heap.size, 9 + c, none⟩ (.bool b) (fun _ => rfl)
  have hbk : (w2.setCell ⟨w.heap.size, 9 + c, none⟩ (.bool b)).heap[w.heap.size]? = some (.cells (docF r.boot r.ses (fun j => if j = c then b else r.hol j)) 53 (0, 0)) := by
    rw [heap_setCell_at hbx2, docF_setH hc8]
  have hbr := hm.heap hbz (by have := HZ1.out; omega)
  have hc8' : (c : Int) < 8 := by omega
  generalize (fun j => if j = c then b else r.hol j) = hh at *
  generalize r.ses c = sc at q h0
  have d1 : ((sc : Int) == 0) = false := beq_eq_false_iff_ne.2 (by omega)
  have haD := aggD (b := r.boot) (s := r.ses) (h := hh)
  have honD := docF_one (b := r.boot) (s := r.ses) (h := hh)
  have hLD := lies_of hbk
  have HM := Lib.hid hm
  clear hbk hm hbx2 hbz
  go_enter Tryz.func28, Tryz.ntmps28
  go_upto_region 1 with fail
  clear hw1 hw2
  go_wp2_with
    (first
      | ((with_reducible refine wpList_loadA haD hLD ?_ ?_); rfl; go_frame)
      | ((with_reducible refine wpList_storeB haD ?_ ?_ hbr rfl honD ?_); rfl; rfl; (intro w9 hh9 hm9; have HH9 := Lib.hid hh9; have HM9 := Lib.hid hm9; clear hh9 hm9); go_frame)
      | fail)
  refine bodyPost_ret (results_cellT rfl _ rfl haD (lies_of HH9.out)) rfl ?_
  exact ⟨rfl, HB.out.trans ((HM.out.below HB.out.size fun x hx e => by omega).trans (HM9.out.below (Nat.le_trans HB.out.size HM.out.size) fun x hx e => by have := HZ1.out; omega))⟩
end
end Go.Proofs.YtipbaajdnnddgaaGreat
