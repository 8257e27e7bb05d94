/- A disk with a fuse: what its calls may leave. Plain. -/
import Derived.Test.YtmakpbjknklpiaaGreatMgRpl23
import Derived.Test.YtmakpbjknklpiaaGreatMgRpl19
import Derived.Test.YtmakpbjknklpiaaGreatMgRpl22
import Derived.Test.YtmakpbjknklpiaaGreatMgRpl17
import Derived.Test.YtmakpbjknklpiaaGreatMgRpl21
import Derived.Test.YtmakpbjknklpiaaGreatMgRpl20
/- The disk: Crash, walked. -/
namespace Go.Proofs.YtmakpbjknklpiaaGreat
open Go.RowKit Go.Tn Go.Tn.Bt Go.Tn.Lp Go.Tn.Dk
theorem LSl.modE {α : Type} {en : α → List Value} {k : Nat} {w w' : World} {v : Value} {xs : List α} {S : Nat → Prop} (h : LSl en k w v xs) (hm : Mod S w w') (hr : 0 < xs.length → ∀ r, v.ownBlock = some r → ¬ S r) : LSl en k w' v xs := by
  by_cases h0 : 0 < xs.length
  · exact h.mod hm (hr h0)
  · obtain ⟨ao, cap, rfl, h1, h2, -⟩ := h
    exact ⟨ao, cap, rfl, h1, h2, fun h => absurd h h0⟩
set_option maxRecDepth 20000 in
set_option maxHeartbeats 4000000 in
theorem dcrash_any {w : World} {F : Nat → Prop} {p : Nat} {d : Dsk} (h : DAt w F p d) (v : Value) (ks : List Int) (hv : LSl enI 1 w v ks) (hvF : 0 < ks.length → ∀ r, v.ownBlock = some r → ¬ F r) (torn : Int) :
    Calls Tryz.prog 19 #[.pointer (some ⟨p, 0, none⟩), v, .int .i64 torn] w fun e w' => e = .returned (.tuple #[]) ∧ DAt w' F p (d.crash ks torn) ∧ Mod F w w' := by
  have hsz := size_any h
  have hlo := h.ok.lo
  have hhi := h.ok.hi
  have hsm := h.ok.small
  have HOK := Lib.hid (h.ok.crash ks torn)
  have HSEC := Lib.hid h.ok.sec
  have HQQ := Lib.hid h.ok.que
  have HLF := Lib.hid h.lt
  have hne : ((d.L.length : Int) == 0) = false := beq_eq_false_iff_ne.2 (by omega)
  obtain ⟨r, qv, h1, h2, h3, h4, h5, h6, h7⟩ := h.ex
  have HFP := Lib.hid h6
  have HFR := Lib.hid h7
  obtain ⟨qa, qc, rfl, hq1, hq2, hq3⟩ := h3.sl elQ.len
  unfold maxLen at hq2
  have c1 := cell_of (o := 1) h1 rfl
  have hqr : ¬ (Value.slice qa d.Q.length qc).ownBlock = some r := fun e => (h5 r e).2.1 rfl
  have hpl := h.lt p h6
  have hvr : 0 < ks.length → ∀ k, v.ownBlock = some k → ¬ k = r := fun h0 k hk e => hvF h0 k hk (e ▸ h7)
  have H1 := Lib.hid h1
  have H2 := Lib.hid h2
  have H5 := Lib.hid h5
  have HV := Lib.hid hv
  have HVR := Lib.hid hvr
  have HQ3 := Lib.hid hq3
  have hQ63 : (d.Q.length : Int) ≤ 1000000000 := by omega
  have hL63 : (d.L.length : Int) ≤ 4096 := by omega
  clear h1 h2 h3 h5 hq3 h hv hvF hvr h6 h7
  go_enter Tryz.func19, Tryz.ntmps19
  go_wp2_with (first
    | (go_at_call 34; refine hsz.mono ?_; rintro e w2 ⟨rfl, hw2⟩; obtain rfl := hw2.symm; clear hw2)
    | fail)
  go_loopw [16] (fun iv wi => ∃ k : Nat, k ≤ d.Q.length ∧ iv = .int .i64 k ∧ LOut enS 128 115 0 wi (.slice (some ⟨r, 0, none⟩) d.L.length d.L.length) (crashL d.Q.length ks torn 0 (d.Q.take k) d.L) ∧ Mod (fun b => b = r) w wi) (fun iv _ => d.Q.length - (intOf iv).toNat)
  case atStart => exact ⟨0, Nat.zero_le _, rfl, H2.out, Mod.refl _ _⟩
  case round =>
    obtain ⟨k, hk, rfl, hO, hm⟩ := hrel
    by_cases hkl : k < d.Q.length
    · have hkl' : (k : Int) < (d.Q.length : Int) := by omega
      obtain ⟨⟨qi, qs⟩, hq⟩ : ∃ q, d.Q[k]? = some q := ⟨_, List.getElem?_eq_getElem hkl⟩
      have hqi : qi < d.L.length := (HQQ.out _ (List.mem_of_getElem? hq)).1
      have hqs : secB qs := (HQQ.out _ (List.mem_of_getElem? hq)).2
      obtain ⟨gq, go, rfl, hgl, hcq⟩ := HQ3.out (by omega)
      have hgr : ¬ gq = r := fun e => hqr (by rw [e]; rfl)
      have hlq := lies_mod (S := fun b => b = r) (hcq k _ hq) hm hgr
      have hlt2 := crashL_take d.Q.length ks torn d.Q d.L k _ hq
      have hb2 : Below wr.heap.size wr (wr.alloc (.cells (enQ (qi, qs)).toArray 117)) := (Below.refl _ _).alloc (Nat.le_refl _) _
      have hY : (wr.alloc (.cells (enQ (qi, qs)).toArray 117)).heap[wr.heap.size]? = some (.cells (enQ (qi, qs)).toArray 117 (0, 0)) := heap_alloc_at
      have hq0 := cell_of (o := 0) (v := .int .i64 qi) hY rfl
      have hql : Lies (wr.alloc (.cells (enQ (qi, qs)).toArray 117)) wr.heap.size 1 (enS qs).toArray := fun j hj => by
        refine cell_of hY ?_
        rw [List.getElem?_toArray, Nat.add_comm, enQ, List.getElem?_cons_succ]
        simp at hj ⊢
      have hp : (wr.alloc (.cells (enQ (qi, qs)).toArray 117)).heap[p]? = _ := (heap_alloc_lt (Nat.lt_of_lt_of_le hpl hm.size)).trans ((hm.block p hpl (fun e => h4 e.symm)).trans H1.out)
      have c0 := cell_of (o := 0) hp rfl
      have hO2 := hO.below hb2
      have hm2 : Mod (fun b => b = r) w (wr.alloc (.cells (enQ (qi, qs)).toArray 117)) := hm.alloc _
      have HLQ := Lib.hid hlq
      have HLT := Lib.hid hlt2
      have HO2 := Lib.hid hO2
      have HM2 := Lib.hid hm2
      have HP := Lib.hid hp
      have HWS : Hid (r < wr.heap.size) := Lib.hid (by have := hO.lt (r := r) rfl; exact this)
      clear hq hcq hlq hlt2 hY hp hO hm hO2 hm2 hb2
      go_upto_region 4 with (first
        | ((with_reducible refine wpList_loadA (aggQ (qi, qs)).toAggT HLQ.out ?_ ?_); rfl; go_frame)
        | ((with_reducible refine wpList_storeA_new (aggQ (qi, qs)).toAggT (zcQ (qi, qs)) (all_one (enQ_one (qi, qs))) ?_ ?_ ?_); rfl; rfl; go_frame)
        | fail)
      generalize wr.alloc (.cells (enQ (qi, qs)).toArray 117) = w3 at *
      have hS : w3.drew.cell? ⟨p, 0, none⟩ = some (.slice (some ⟨r, 0, none⟩) d.L.length d.L.length) ∧ w3.drew.cell? ⟨wr.heap.size, 0, none⟩ = some (.int .i64 qi) := ⟨c0, hq0⟩
      refine wp_region_x (fun w' => w'.cell? ⟨p, 0, none⟩ = some (.slice (some ⟨r, 0, none⟩) d.L.length d.L.length) ∧ w'.cell? ⟨wr.heap.size, 0, none⟩ = some (.int .i64 qi)) [(0, 1), (1, 1), (2, 1), (3, 0), (4, 1), (5, 0), (6, 1), (7, 1), (8, 1), (9, 1), (10, 1), (13, 1), (14, 1), (11, 2), (12, 1), (15, 2)] (by kernel_rfl) (by kernel_rfl) (by intro d v c a w h; cases d <;> exact h) ?_
      have hqi0 : (0 : Int) ≤ (qi : Int) := by omega
      have hqi' : (qi : Int) < (d.L.length : Int) := by omega
      iterate 3 (refine x_take rfl (fun K hK => ?_); go_simp; refine hK _ ?_; clear hK K)
      refine x_read rfl hS (fun w' h => exec_load1 ⟨⟨_, Tryz.underlying64, rfl⟩⟩ rfl h.1) ?_
      iterate 1 (refine x_take rfl (fun K hK => ?_); go_simp; refine hK _ ?_; clear hK K)
      refine x_read rfl hS (fun w' h => exec_load1 ⟨⟨_, Tryz.underlying3, rfl⟩⟩ rfl h.2) ?_
      iterate 7 (refine x_take rfl (fun K hK => ?_); go_simp; refine hK _ ?_; clear hK K)
      refine x_show' rfl (fun K hK => ?_)
      go_simp
      refine (kept_any (w := w3.drew) HP.out hsm k hkl v ks (LSl.modE HV.out HM2.out.drew HVR.out) torn).mono ?_
      rintro e w4 ⟨rfl, hw4⟩
      obtain rfl := hw4.symm
      refine hK _ _ hS ?_
      clear hK K hw4
      have hkn := keptN_le d.Q.length k ks torn
      have hkn' : ((keptN d.Q.length k ks torn : Nat) : Int) ≤ 128 := by omega
      obtain ⟨w5, hcp, hO5, hm5⟩ := copy_torn (m := keptN d.Q.length k ks torn) (c := 128) (HO2.out.below (Below.refl _ _).drew) (i := qi) (by rw [crashL_len]; exact hqi) (crashL_sec _ _ _ (fun q hq => HQQ.out q (List.mem_of_mem_take hq)) rfl HSEC.out) hkn hqs hql (by have := HWS.out; omega)
      have HS5 := Lib.hid (And.intro (cell_mod (S := fun b => b = r) hS.1 hm5 (fun e => h4 e.symm)) (cell_mod (S := fun b => b = r) hS.2 hm5 (fun e => by have := HWS.out; omega)))
      rw [← HLT.out] at hO5
      have HO5 := Lib.hid hO5
      have HM5 : Hid (Mod (fun b => b = r) w w5) := Lib.hid (HM2.out.drew.trans hm5 (fun _ h => h) (fun _ _ h => h))
      iterate 1 (refine x_take rfl (fun K hK => ?_); go_simp; refine hK _ ?_; clear hK K)
      refine x_show rfl (hcp _ _ _ _ _ _ _ _ rfl rfl) HS5.out ?_
      refine x_nil ?_
      clear hcp hO5 hm5 hS c0 hq0 hql
      go_wp2
      go_roundw
      case rel => exact ⟨k + 1, by omega, by go_num, HO5.out, HM5.out⟩
      case measure => simp [intOf]; omega
    · obtain rfl : k = d.Q.length := by omega
      rw [List.take_length] at hO
      have hp : wr.heap[p]? = _ := (hm.block p hpl (fun e => h4 e.symm)).trans H1.out
      have hc1 := cell_of (o := 1) hp rfl
      have hc3 := cell_of (o := 3) hp rfl
      have hc4 := cell_of (o := 4) hp rfl
      have hf1 := free_of (o := 1) hp
      have hf3 := free_of (o := 3) hp
      have hf4 := free_of (o := 4) hp
      have hfin : DAt (((wr.setCell ⟨p, 1, none⟩ (.slice none 0 0)).setCell ⟨p, 3, none⟩ (.bool false)).setCell ⟨p, 4, none⟩ (.bool false)) F p (d.crash ks torn) ∧ Mod F w (((wr.setCell ⟨p, 1, none⟩ (.slice none 0 0)).setCell ⟨p, 3, none⟩ (.bool false)).setCell ⟨p, 4, none⟩ (.bool false)) := by
        have hm4 : Mod (fun b => b = p) wr (((wr.setCell ⟨p, 1, none⟩ (.slice none 0 0)).setCell ⟨p, 3, none⟩ (.bool false)).setCell ⟨p, 4, none⟩ (.bool false)) := Mod.setCell (S := fun b => b = p) (Mod.setCell (S := fun b => b = p) (Mod.setCell (S := fun b => b = p) (Mod.refl _ _) _ _ fun _ => rfl) _ _ fun _ => rfl) _ _ fun _ => rfl
        have hh := heap_setCell_at (o := 4) (v := .bool false) (heap_setCell_at (o := 3) (v := .bool false) (heap_setCell_at (o := 1) (v := .slice none 0 0) hp))
        refine ⟨⟨HOK.out, ⟨r, .slice none 0 0, ?_, ?_, LOut.nil (Nat.zero_le _), h4, (fun k hk => by cases hk), HFP.out, HFR.out⟩, ?_⟩, hm.trans (T := F) hm4 (fun x hx => by rw [hx]; exact HFR.out) (fun x _ hx => by rw [hx]; exact HFP.out)⟩
        · rw [crash_L]
          exact hh
        · rw [crash_L]
          exact hO.kept hm4.size fun k hk => by cases hk; exact hm4.block r (hO.lt rfl) h4
        · intro b hb
          exact Nat.lt_of_lt_of_le (Nat.lt_of_lt_of_le (HLF.out b hb) hm.size) hm4.size
      have HFIN := Lib.hid hfin
      clear hO hm hp hfin
      go_wp2
      (try simp only [Exit.inBlock, Exit.then]); refine bodyPost_end (results_none rfl _ _ _) rfl ?_
      exact ⟨rfl, HFIN.out.1, HFIN.out.2⟩
end Go.Proofs.YtmakpbjknklpiaaGreat

/- The calls that a law is handed. -/
namespace Go.Proofs.YtmakpbjknklpiaaGreat
open Go.ChangeShapes Go.WideShapes Go.ChangeAt Go.RowKit Go.Tn Go.Joins Go.Tn.Bt Go.Tn.Lp Go.Tn.Dk
/-- A call: what, a number, puts, odd, what is kept. -/
structure DoP where
  kind : Int
  num : Int
  puts : List Pt
  odd : Bool
  keep : List Int
def enDo (x : DoP × Sv × Sv) : List Value := [.int .i64 x.1.kind, .int .i64 x.1.num, sv x.2.1, .bool x.1.odd, sv x.2.2]
def DosI (w : World) (v : Value) (ds : List DoP) : Prop := ∃ xs : List (DoP × Sv × Sv), xs.map (·.1) = ds ∧ LSl enDo 5 w v xs ∧ ∀ x ∈ xs, PtsI w (sv x.2.1) x.1.puts ∧ (∀ p ∈ x.1.puts, ∀ b ∈ p.2, b < 256) ∧ LSl enI 1 w (sv x.2.2) x.1.keep ∧ x.1.num < 9223372036854775808
theorem DosI.below {w w' : World} {v : Value} {ds : List DoP} (h : DosI w v ds) (hb : Below w.heap.size w w') : DosI w' v ds := by
  obtain ⟨xs, h1, h2, h3⟩ := h
  exact ⟨xs, h1, h2.below hb, fun x hx => ⟨(h3 x hx).1.below hb, (h3 x hx).2.1, (h3 x hx).2.2.1.below hb, (h3 x hx).2.2.2⟩⟩
theorem wf_i64_hi {n : Int} (h : (Lit.int .i64 n).wf = true) : n < 9223372036854775808 := by
  simp [Lit.wf, IntKind.bits, IntKind.signed] at h
  omega
theorem flatDo : flat Tryz.prog 4 41 = some [3, 3, 37, 4, 39] := by kernel_rfl
theorem cellsDo : Tryz.prog.cellsOf 41 = [3, 3, 37, 4, 39].length := by kernel_rfl
theorem flatI : flat Tryz.prog 1 3 = some [3] := by kernel_rfl
theorem cellsI : Tryz.prog.cellsOf 3 = [3].length := by kernel_rfl
section
variable {H : Type} {enc : TypeId × Value → H} {w : World} {base : Nat} {spare : Nat → Bool} {held : Bool}
theorem ints_of {ao : Option Addr} {n cap : Nat} {x : DataW H} {ps : List MemPlace} (h : DataW.Trod enc Tryz.prog w base spare held 39 (.slice ao n cap) x ps) : ∃ bs : List Int, LSl enI 1 w (.slice ao n cap) bs := by
  rcases open_flat Tryz.underlying39 flatI cellsI (by decide) h ⟨_, _, _, rfl⟩ with hv | ⟨b, off, spot, len, cap', hv, hl, hm, hin, hc⟩
  · cases hv
    exact ⟨[], LSl.nil w⟩
  · cases hv
    have hex : ∀ i : Nat, ∃ z : Int, i < n → w.cell? ⟨b, off + i, none⟩ = some (.int .i64 z) := fun i => by
      by_cases hi : i < n
      · obtain ⟨c, h1, h2⟩ := hc i hi 0 3 rfl
        obtain ⟨z, rfl, _⟩ := h2.int Tryz.underlying3
        exact ⟨z, fun _ => by simpa using h1⟩
      · exact ⟨0, fun h => absurd h hi⟩
    have hlen : ((List.range n).map fun i => Classical.choose (hex i)).length = n := by simp
    refine ⟨(List.range n).map fun i => Classical.choose (hex i), _, cap, by rw [hlen], by rw [hlen]; exact hl, hm, fun h0 => ?_⟩
    rw [hlen] at h0
    refine ⟨b, off, by rw [(hin h0).1], (hin h0).2, fun i y hi => ?_⟩
    have hlt : i < n := by
      have := (List.getElem?_eq_some_iff.1 hi).1
      rwa [hlen] at this
    have hy : Classical.choose (hex i) = y := by simpa [hlt] using hi
    rw [← hy]
    intro j hj
    have hj0 : j = 0 := by simpa using hj
    subst hj0
    have := Classical.choose_spec (hex i) hlt
    simpa using this
theorem CellOk.slice {t e : TypeId} (ht : Tryz.prog.underlying t = some (.slice e)) {c : Value} (h : CellOk enc Tryz.prog w base spare held t c) : ∃ a n cap, c = .slice a n cap ∧ ∃ x ps, DataW.Trod enc Tryz.prog w base spare held t (.slice a n cap) x ps := by
  obtain ⟨m, ⟨x, ps⟩, h⟩ := h
  have hsh : ∃ a n cap, c = .slice a n cap := by
    rcases Go.Deep.open_slice ht h with ⟨hcs, _⟩ | ⟨⟨b, off, spot⟩, len, cap, m, n, D, Pl, hcs, _⟩
    · exact ⟨_, _, _, by simpa using hcs⟩
    · exact ⟨_, _, _, by simpa using hcs⟩
  obtain ⟨a, n, cap, rfl⟩ := hsh
  exact ⟨a, n, cap, rfl, x, ps, m, h⟩
theorem dos_of {ao : Option Addr} {n cap : Nat} {x : DataW H} {ps : List MemPlace} (h : DataW.Trod enc Tryz.prog w base spare held 22 (.slice ao n cap) x ps) : ∃ ds : List DoP, DosI w (.slice ao n cap) ds := by
  rcases open_flat Tryz.underlying22 flatDo cellsDo (by decide) h ⟨_, _, _, rfl⟩ with hv | ⟨b, off, spot, len, cap', hv, hl, hm, hin, hc⟩
  · cases hv
    exact ⟨[], [], rfl, LSl.nil w, fun x hx => by cases hx⟩
  · cases hv
    have hex : ∀ i : Nat, ∃ y : DoP × Sv × Sv, i < n → Lies w b (off + i * 5) (enDo y).toArray ∧ PtsI w (sv y.2.1) y.1.puts ∧ (∀ p ∈ y.1.puts, ∀ b ∈ p.2, b < 256) ∧ LSl enI 1 w (sv y.2.2) y.1.keep ∧ y.1.num < 9223372036854775808 := fun i => by
      by_cases hi : i < n
      · obtain ⟨c0, h0, k0⟩ := hc i hi 0 3 rfl
        obtain ⟨z0, rfl, _⟩ := k0.int Tryz.underlying3
        obtain ⟨c1, h1, k1⟩ := hc i hi 1 3 rfl
        obtain ⟨z1, rfl, hz1⟩ := k1.int Tryz.underlying3
        obtain ⟨c2, h2, k2⟩ := hc i hi 2 37 rfl
        obtain ⟨a2, n2, cp2, rfl, x2, p2, t2⟩ := CellOk.slice Tryz.underlying37 k2
        obtain ⟨qs, hq1, hq2⟩ := puts_of t2
        obtain ⟨c3, h3, k3⟩ := hc i hi 3 4 rfl
        obtain ⟨z3, rfl⟩ := k3.bool Tryz.underlying4
        obtain ⟨c4, h4, k4⟩ := hc i hi 4 39 rfl
        obtain ⟨a4, n4, cp4, rfl, x4, p4, t4⟩ := CellOk.slice Tryz.underlying39 k4
        obtain ⟨zs, hz⟩ := ints_of t4
        refine ⟨(⟨z0, z1, qs, z3, zs⟩, (a2, n2, cp2), (a4, n4, cp4)), fun _ => ⟨fun j hj => ?_, hq1, hq2, hz, wf_i64_hi hz1⟩⟩
        have hj5 : j < 5 := by simpa [enDo] using hj
        match j, hj5 with
        | 0, _ => exact h0
        | 1, _ => exact h1
        | 2, _ => exact h2
        | 3, _ => exact h3
        | 4, _ => exact h4
      · exact ⟨(⟨0, 0, [], false, []⟩, (none, 0, 0), (none, 0, 0)), fun h => absurd h hi⟩
    have hlen : ((List.range n).map fun i => Classical.choose (hex i)).length = n := by simp
    have hget : ∀ i y, ((List.range n).map fun i => Classical.choose (hex i))[i]? = some y → i < n ∧ Classical.choose (hex i) = y := fun i y hi => by
      have hlt : i < n := by
        have := (List.getElem?_eq_some_iff.1 hi).1
        rwa [hlen] at this
      exact ⟨hlt, by simpa [hlt] using hi⟩
    refine ⟨((List.range n).map fun i => Classical.choose (hex i)).map (·.1), (List.range n).map fun i => Classical.choose (hex i), rfl, ⟨_, cap, by rw [hlen], by rw [hlen]; exact hl, hm, fun h0 => ?_⟩, fun y hy => ?_⟩
    · rw [hlen] at h0
      refine ⟨b, off, by rw [(hin h0).1], (hin h0).2, fun i y hi => ?_⟩
      obtain ⟨hlt, hy⟩ := hget i y hi
      rw [← hy]
      exact (Classical.choose_spec (hex i) hlt).1
    · obtain ⟨i, hi⟩ := List.mem_iff_getElem?.1 hy
      obtain ⟨hlt, hy⟩ := hget i y hi
      rw [← hy]
      exact (Classical.choose_spec (hex i) hlt).2
end
end Go.Proofs.YtmakpbjknklpiaaGreat

/- Homes as a list; homes behind a transaction. Plain. -/
namespace Go.Proofs.YtmakpbjknklpiaaGreat
open Go.RowKit Go.Tn Go.Tn.Bt Go.Tn.Lp Go.Tn.Dk
def homesB (l : Lg) (d : Dsk) : List (List Nat) := (List.range (l.homes d)).map (l.home d)
/-- Homes behind a transaction. -/
def overB (hs : List (List Nat)) (ps : List Pt) : List (List Nat) := ps.foldl (fun hs p => if 0 ≤ p.1 ∧ p.1 < (hs.length : Int) then hs.set p.1.toNat p.2 else hs) hs
theorem home_getD (l : Lg) (d : Dsk) (k : Nat) : l.home d k = (l.H k).getD (d.get (2 + l.n + k)) := by
  unfold Lg.home
  cases l.H k <;> rfl
theorem set_range (N : Nat) (f : Nat → List Nat) (i : Nat) (b : List Nat) : ((List.range N).map f).set i b = (List.range N).map fun k => if k = i then b else f k := by
  apply List.ext_getElem?
  intro j
  rw [List.getElem?_set, List.length_map, List.length_range, List.getElem?_map, List.getElem?_map]
  by_cases hj : j < N
  · rw [List.getElem?_range hj]
    by_cases h : i = j
    · subst h
      simp [hj]
    · rw [if_neg h]
      simp [show ¬ j = i from fun e => h e.symm]
  · rw [List.getElem?_eq_none (l := List.range N) (by rw [List.length_range]; omega)]
    by_cases h : i = j
    · subst h
      simp [hj]
    · rw [if_neg h]
      rfl
theorem over_take (N : Nat) (g : Nat → List Nat) : ∀ (ps : List Pt) (H : Nat → Option (List Nat)), (∀ p ∈ ps, 0 ≤ p.1 ∧ p.1 < N) → overB ((List.range N).map fun k => (H k).getD (g k)) ps = (List.range N).map fun k => (takeH H ps k).getD (g k)
  | [], H, _ => rfl
  | p :: ps, H, h => by
    have hp := h p List.mem_cons_self
    have ih := over_take N g ps (fun k => if (k : Int) = p.1 then some p.2 else H k) fun q hq => h q (List.mem_cons_of_mem _ hq)
    show overB (if 0 ≤ p.1 ∧ p.1 < ((((List.range N).map fun k => (H k).getD (g k)).length : Nat) : Int) then ((List.range N).map fun k => (H k).getD (g k)).set p.1.toNat p.2 else (List.range N).map fun k => (H k).getD (g k)) ps = (List.range N).map fun k => (takeH (fun k : Nat => if (k : Int) = p.1 then some p.2 else H k) ps k).getD (g k)
    rw [if_pos (by simp; omega), set_range, ← ih]
    congr 1
    refine List.map_congr_left fun k _ => ?_
    by_cases hk : (k : Int) = p.1
    · rw [if_pos (by omega), if_pos hk]
      rfl
    · rw [if_neg (by omega), if_neg hk]
end Go.Proofs.YtmakpbjknklpiaaGreat

/- Puts in memory that are all there. -/
namespace Go.Proofs.YtmakpbjknklpiaaGreat
open Go.RowKit Go.Tn Go.Tn.Bt Go.Tn.Lp Go.Tn.Dk
/-- Puts in a slice, all there, none of their blocks among S. -/
def PtB (w : World) (S : Nat → Prop) (v : Value) (ps : List Pt) : Prop := ∃ xs : List (Pt × Sv), xs.map (·.1) = ps ∧ LSl enPt 2 w v xs ∧ (∀ r, v.ownBlock = some r → ¬ S r ∧ r < w.heap.size) ∧ ∀ x ∈ xs, LSl en8 1 w (sv x.2) x.1.2 ∧ ∀ r, (sv x.2).ownBlock = some r → ¬ S r ∧ r < w.heap.size
theorem PtsO.b {B : Nat} {w : World} {S : Nat → Prop} {v : Value} {ps : List Pt} (h : PtsO B w v ps) (hS : ∀ b, S b → b < B ∨ w.heap.size ≤ b) : PtB w S v ps := by
  obtain ⟨xs, h1, h2, h3⟩ := h
  refine ⟨xs, h1, h2.sl elPt.len, fun r hr => ⟨fun e => ?_, h2.lt hr⟩, fun x hx => ⟨(h3 x hx).1, fun r hr => ⟨fun e => ?_, ((h3 x hx).2 r hr).2.1⟩⟩⟩
  · have := h2.lt hr
    have := h2.lo r hr
    rcases hS r e with h | h <;> omega
  · have := ((h3 x hx).2 r hr)
    rcases hS r e with h | h <;> omega
theorem PtB.a {w : World} {S : Nat → Prop} {v : Value} {ps : List Pt} (h : PtB w S v ps) : PtsA w S v ps := by
  obtain ⟨xs, h1, h2, h3, h4⟩ := h
  exact ⟨xs, h1, h2, fun r hr => (h3 r hr).1, fun x hx => ⟨(h4 x hx).1, fun r hr => ((h4 x hx).2 r hr).1⟩⟩
theorem PtB.mod {w w' : World} {S S' : Nat → Prop} {v : Value} {ps : List Pt} (h : PtB w S v ps) (hm : Mod S w w') (hS : ∀ b, S' b → S b ∨ w.heap.size ≤ b) : PtB w' S' v ps := by
  obtain ⟨xs, h1, h2, h3, h4⟩ := h
  have key : ∀ r, ¬ S r ∧ r < w.heap.size → ¬ S' r ∧ r < w'.heap.size := fun r hr => ⟨fun e => by
    rcases hS r e with h | h
    · exact hr.1 h
    · omega, Nat.lt_of_lt_of_le hr.2 hm.size⟩
  exact ⟨xs, h1, h2.mod hm fun r hr => (h3 r hr).1, fun r hr => key r (h3 r hr), fun x hx => ⟨(h4 x hx).1.mod hm fun r hr => ((h4 x hx).2 r hr).1, fun r hr => key r ((h4 x hx).2 r hr)⟩⟩
theorem PtB.below {w w' : World} {S : Nat → Prop} {v : Value} {ps : List Pt} (h : PtB w S v ps) (hb : Below w.heap.size w w') : PtB w' S v ps := by
  obtain ⟨xs, h1, h2, h3, h4⟩ := h
  exact ⟨xs, h1, h2.below hb, fun r hr => ⟨(h3 r hr).1, Nat.lt_of_lt_of_le (h3 r hr).2 hb.size⟩, fun x hx => ⟨(h4 x hx).1.below hb, fun r hr => ⟨((h4 x hx).2 r hr).1, Nat.lt_of_lt_of_le ((h4 x hx).2 r hr).2 hb.size⟩⟩⟩
theorem PtB.sub {w : World} {S S' : Nat → Prop} {v : Value} {ps : List Pt} (h : PtB w S v ps) (hS : ∀ b, S' b → S b) : PtB w S' v ps := by
  obtain ⟨xs, e1, e2, e3, e4⟩ := h
  exact ⟨xs, e1, e2, fun r hr => ⟨fun e => (e3 r hr).1 (hS _ e), (e3 r hr).2⟩, fun x hx => ⟨(e4 x hx).1, fun r hr => ⟨fun e => ((e4 x hx).2 r hr).1 (hS _ e), ((e4 x hx).2 r hr).2⟩⟩⟩
end Go.Proofs.YtmakpbjknklpiaaGreat

/- The disk's Waits, where nothing waits; puts apart from what is made later; plain facts of Write. -/
namespace Go.Proofs.YtmakpbjknklpiaaGreat
open Go.RowKit Go.Tn Go.Tn.Bt Go.Tn.Lp Go.Tn.Dk
theorem PtsO.ahead {B : Nat} {w : World} {F : Nat → Prop} {v : Value} {ps : List Pt} (h : PtsO B w v ps) (hF : ∀ b, F b → w.heap.size ≤ b) : PtsA w F v ps := by
  obtain ⟨xs, h1, h2, h3⟩ := h
  refine ⟨xs, h1, h2.sl elPt.len, fun r hr e => ?_, fun x hx => ⟨(h3 x hx).1, fun r hr e => ?_⟩⟩
  · have := h2.lt hr
    have := hF r e
    omega
  · have := ((h3 x hx).2 r hr).2.1
    have := hF r e
    omega
theorem few_len (ps : List Pt) (n : Nat) (odd : Bool) : (fewB ps n odd).length ≤ n := by
  unfold fewB
  rw [List.length_map, List.length_take]
  omega
theorem rsecB_lt {bs : List Nat} (h : ∀ x ∈ bs, x < 256) : ∀ x ∈ rsecB bs, x < 256 := fun x hx => by
  unfold rsecB at hx
  rcases List.mem_append.1 hx with hx | hx
  · exact h x (List.mem_of_mem_take hx)
  · have := List.eq_of_mem_replicate hx
    omega
theorem few_lt {ps : List Pt} (h : ∀ p ∈ ps, ∀ x ∈ p.2, x < 256) (n : Nat) (odd : Bool) : ∀ p ∈ fewB ps n odd, ∀ x ∈ p.2, x < 256 := fun p hp x hx => by
  obtain ⟨q, hq, rfl⟩ := List.mem_map.1 hp
  have hq := h q (List.mem_of_mem_take hq)
  unfold fewP at hx
  simp only at hx
  split at hx
  · exact hq x (List.mem_of_mem_take hx)
  · exact rsecB_lt hq x hx
end Go.Proofs.YtmakpbjknklpiaaGreat

/- Lists of sectors in memory; Same, same: walked. -/
namespace Go.Proofs.YtmakpbjknklpiaaGreat
open Go.RowKit Go.Tn Go.Tn.Bt Go.Tn.Lp Go.Tn.Dk
set_option maxRecDepth 20000 in
theorem rsame_any (w : World) (v u : Value) (cs bs : List Nat) (ha : LSl en8 1 w v cs) (hb : LSl en8 1 w u bs) : Calls Tryz.prog 25 #[v, u] w
    fun e w' => e = .returned (.bool (decide (cs = bs))) ∧ Below w.heap.size w w' := by
  obtain ⟨ao, ca, rfl, a1, a2, a3⟩ := ha
  obtain ⟨bo, cb, rfl, b1, b2, b3⟩ := hb
  unfold maxLen at a2 b2
  have ha63 : (cs.length : Int) ≤ 9223372036854775807 := by omega
  have hb63 : (bs.length : Int) ≤ 9223372036854775807 := by omega
  obtain ⟨R, hR⟩ : ∃ R, decide (cs = bs) = R := ⟨_, rfl⟩
  rw [hR]
  have HR := Lib.hid hR
  clear hR
  by_cases hl : cs.length = bs.length
  · have hne : ((cs.length : Int) != (bs.length : Int)) = false := by rw [bne_eq_false_iff_eq]; omega
    rw [← hl] at hne b1 b3 hb63 ⊢
    have HL := Lib.hid hl
    clear hl
    go_enter Tryz.func25, Tryz.ntmps25
    go_wp2
    go_loopw [5] (fun iv wi => ∃ k : Nat, k ≤ cs.length ∧ iv = .int .i64 k ∧ cs.take k = bs.take k ∧ Below w.heap.size w wi) (fun iv _ => cs.length - (intOf iv).toNat)
    case atStart => exact ⟨0, Nat.zero_le _, rfl, rfl, Below.refl _ _⟩
    case round =>
      obtain ⟨k, hk, rfl, hpre, hbe⟩ := hrel
      by_cases hlt : k < cs.length
      · have hd1 : decide (k < cs.length) = true := by simp [hlt]
        have hkl : (k : Int) < (cs.length : Int) := by omega
        obtain ⟨b4, o4, rfl, hb4, hc4⟩ := a3 (by omega)
        obtain ⟨b5, o5, rfl, hb5, hc5⟩ := b3 (by omega)
        have hx : cs[k]? = some cs[k] := List.getElem?_eq_getElem hlt
        have hy : bs[k]? = some (bs[k]'(by rw [← HL.out]; exact hlt)) := List.getElem?_eq_getElem _
        generalize cs[k] = x at hx
        generalize (bs[k]'(by rw [← HL.out]; exact hlt)) = y at hy
        have p0 : wr.drew.cell? ⟨b4, o4 + k, none⟩ = some (.int .u8 (x : Nat)) := by
          have := (hc4 k x hx).below' hbe hb4 0 (by simp)
          simpa using this
        have p1 : wr.drew.cell? ⟨b5, o5 + k, none⟩ = some (.int .u8 (y : Nat)) := by
          have := (hc5 k y hy).below' hbe hb5 0 (by simp)
          simpa using this
        have hS := And.intro p0 p1
        have HX := Lib.hid hx
        have HY := Lib.hid hy
        have HP := Lib.hid hpre
        have HB := Lib.hid hbe
        clear hx hy hpre hbe p0 p1 hc4 hc5 a3 b3
        go_upto_region 6 with fail
        refine wp_region_x (fun w' => w'.cell? ⟨b4, o4 + k, none⟩ = some (.int .u8 (x : Nat)) ∧ w'.cell? ⟨b5, o5 + k, none⟩ = some (.int .u8 (y : Nat))) [(0, 1), (1, 1), (2, 1), (3, 0), (4, 1), (5, 1), (6, 1), (7, 0), (8, 1)] (by kernel_rfl) (by kernel_rfl) (by intro d v c a w h; cases d <;> exact h) ?_
        iterate 3 (refine x_take rfl (fun K hK => ?_); go_simp; refine hK _ ?_; clear hK K)
        refine x_read rfl hS (fun w' h => exec_load1 ⟨⟨_, Tryz.underlying5, rfl⟩⟩ rfl h.1) ?_
        iterate 3 (refine x_take rfl (fun K hK => ?_); go_simp; refine hK _ ?_; clear hK K)
        refine x_read rfl hS (fun w' h => exec_load1 ⟨⟨_, Tryz.underlying5, rfl⟩⟩ rfl h.2) ?_
        iterate 1 (refine x_take rfl (fun K hK => ?_); go_simp; refine hK _ ?_; clear hK K)
        refine x_nil ?_
        clear hS
        by_cases hxy : x = y
        · have hee : ((x : Int) != (y : Int)) = false := by rw [bne_eq_false_iff_eq]; omega
          have HXY := Lib.hid hxy
          clear hxy
          go_wp2
          go_roundw
          case rel => exact ⟨k + 1, by omega, by go_num, by rw [take_snoc HX.out, take_snoc HY.out, HP.out, HXY.out], HB.out.drew⟩
          case measure => simp [intOf]; omega
        · have hee : ((x : Int) != (y : Int)) = true := by rw [bne_iff_ne]; omega
          have hno : R = false := by
            rw [← HR.out]
            refine decide_eq_false fun e => hxy ?_
            have h1 := HX.out
            rw [e, HY.out] at h1
            exact (Option.some.inj h1).symm
          have HNO := Lib.hid hno
          clear hno hxy
          go_wp2
          go_ret
          rw [HNO.out]
          exact ⟨rfl, HB.out.drew⟩
      · obtain rfl : k = cs.length := by omega
        have hd1 : decide (cs.length < cs.length) = false := by simp
        have hyes : R = true := by
          rw [← HR.out]
          refine decide_eq_true ?_
          have h2 := hpre
          conv at h2 => rhs; rw [HL.out]
          rw [List.take_length, List.take_length] at h2
          exact h2
        have HNO := Lib.hid hyes
        have HB := Lib.hid hbe
        clear hyes hpre hbe
        go_wp2
        go_ret
        rw [HNO.out]
        exact ⟨rfl, HB.out⟩
  · have hne : ((cs.length : Int) != (bs.length : Int)) = true := by rw [bne_iff_ne]; omega
    have HNO : Hid (R = false) := Lib.hid (by rw [← HR.out]; exact decide_eq_false fun e => hl (by rw [e]))
    clear hl
    go_enter Tryz.func25, Tryz.ntmps25
    go_wp2
    go_ret
    rw [HNO.out]
    exact ⟨rfl, Below.refl _ _⟩
/-- Lists of bytes in a slice; no block of theirs among S, all are there. -/
def enB (x : List Nat × Sv) : List Value := [sv x.2]
theorem elB : ElT Tryz.prog 50 53 1 enB := ⟨Tryz.underlying50, by kernel_rfl, by omega, fun _ => rfl, fun x u hu => by
  simp only [enB, List.mem_cons, List.not_mem_nil, or_false] at hu
  rw [hu]
  rfl⟩
def BlA (w : World) (S : Nat → Prop) (v : Value) (hs : List (List Nat)) : Prop := ∃ xs : List (List Nat × Sv), xs.map (·.1) = hs ∧ LSl enB 1 w v xs ∧ (∀ r, v.ownBlock = some r → ¬ S r ∧ r < w.heap.size) ∧
  ∀ x ∈ xs, LSl en8 1 w (sv x.2) x.1 ∧ ∀ r, (sv x.2).ownBlock = some r → ¬ S r ∧ r < w.heap.size
theorem BlA.mod {w w' : World} {S S' : Nat → Prop} {v : Value} {hs : List (List Nat)} (h : BlA w S v hs) (hm : Mod S w w') (hS : ∀ b, S' b → S b ∨ w.heap.size ≤ b) : BlA w' S' v hs := by
  obtain ⟨xs, h1, h2, h3, h4⟩ := h
  have key : ∀ r, ¬ S r ∧ r < w.heap.size → ¬ S' r ∧ r < w'.heap.size := fun r hr => ⟨fun e => by
    rcases hS r e with h | h
    · exact hr.1 h
    · omega, Nat.lt_of_lt_of_le hr.2 hm.size⟩
  exact ⟨xs, h1, h2.mod hm fun r hr => (h3 r hr).1, fun r hr => key r (h3 r hr), fun x hx => ⟨(h4 x hx).1.mod hm fun r hr => ((h4 x hx).2 r hr).1, fun r hr => key r ((h4 x hx).2 r hr)⟩⟩
theorem BlA.below {w w' : World} {S S' : Nat → Prop} {v : Value} {hs : List (List Nat)} (h : BlA w S v hs) (hb : Below w.heap.size w w') (hS : ∀ b, S' b → S b ∨ w.heap.size ≤ b) : BlA w' S' v hs := by
  obtain ⟨xs, h1, h2, h3, h4⟩ := h
  have key : ∀ r, ¬ S r ∧ r < w.heap.size → ¬ S' r ∧ r < w'.heap.size := fun r hr => ⟨fun e => by
    rcases hS r e with h | h
    · exact hr.1 h
    · omega, Nat.lt_of_lt_of_le hr.2 hb.size⟩
  exact ⟨xs, h1, h2.below hb, fun r hr => key r (h3 r hr), fun x hx => ⟨(h4 x hx).1.below hb, fun r hr => key r ((h4 x hx).2 r hr)⟩⟩
theorem BlA.shape {w : World} {S : Nat → Prop} {v : Value} {hs : List (List Nat)} (h : BlA w S v hs) : ∃ a n c, v = .slice a n c := by
  obtain ⟨xs, -, ⟨ao, cap, rfl, -⟩, -⟩ := h
  exact ⟨_, _, _, rfl⟩
/-- The same, all made from B on. -/
def BlO (B : Nat) (w : World) (v : Value) (hs : List (List Nat)) : Prop := ∃ xs : List (List Nat × Sv), xs.map (·.1) = hs ∧ LOut enB 1 53 B w v xs ∧
  ∀ x ∈ xs, LSl en8 1 w (sv x.2) x.1 ∧ ∀ r, (sv x.2).ownBlock = some r → B ≤ r ∧ r < w.heap.size
theorem BlO.a {B : Nat} {w : World} {S : Nat → Prop} {v : Value} {hs : List (List Nat)} (h : BlO B w v hs) (hS : ∀ b, S b → b < B) : BlA w S v hs := by
  obtain ⟨xs, h1, h2, h3⟩ := h
  exact ⟨xs, h1, h2.sl elB.len, fun r hr => ⟨fun e => by have := hS r e; have := h2.lo r hr; omega, h2.lt hr⟩, fun x hx => ⟨(h3 x hx).1, fun r hr => ⟨fun e => by have := hS r e; have := ((h3 x hx).2 r hr).1; omega, ((h3 x hx).2 r hr).2⟩⟩⟩
end Go.Proofs.YtmakpbjknklpiaaGreat

/- All homes; homes behind a transaction: walked. -/
namespace Go.Proofs.YtmakpbjknklpiaaGreat
open Go.RowKit Go.Tn Go.Tn.Bt Go.Tn.Lp Go.Tn.Dk
def BlG (B : Nat) (w : World) (v : Value) (xs : List (List Nat × Sv)) : Prop := ∀ x ∈ xs, LSl en8 1 w (sv x.2) x.1 ∧ ∀ r, (sv x.2).ownBlock = some r → B ≤ r ∧ r < w.heap.size ∧ v.ownBlock ≠ some r
theorem BlG.below {B : Nat} {w w' : World} {v : Value} {xs : List (List Nat × Sv)} (h : BlG B w v xs) (hb : Below w.heap.size w w') : BlG B w' v xs := fun x hx =>
  ⟨(h x hx).1.below hb, fun r hr => ⟨((h x hx).2 r hr).1, Nat.lt_of_lt_of_le ((h x hx).2 r hr).2.1 hb.size, ((h x hx).2 r hr).2.2⟩⟩
theorem BlG.push {B : Nat} {W w4 : World} {v v4 : Value} {xs : List (List Nat × Sv)} {x : List Nat × Sv} (hD : BlG B W v xs) (hO : LOut enB 1 53 B W v xs) (hx : LSl en8 1 W (sv x.2) x.1) (hxl : ∀ r, (sv x.2).ownBlock = some r → B ≤ r ∧ r < W.heap.size ∧ v.ownBlock ≠ some r)
    (hm : Mod (fun b => v.ownBlock = some b) W w4) (hv : v4.ownBlock = v.ownBlock ∨ ∃ r, v4.ownBlock = some r ∧ W.heap.size ≤ r) : BlG B w4 v4 (xs ++ [x]) := by
  intro y hy
  have key : LSl en8 1 W (sv y.2) y.1 ∧ ∀ r, (sv y.2).ownBlock = some r → B ≤ r ∧ r < W.heap.size ∧ v.ownBlock ≠ some r := by
    rcases List.mem_append.1 hy with hy | hy
    · exact hD y hy
    · rw [List.mem_singleton.1 hy]
      exact ⟨hx, hxl⟩
  refine ⟨key.1.mod hm fun r hr => (key.2 r hr).2.2, fun r hr => ⟨(key.2 r hr).1, Nat.lt_of_lt_of_le (key.2 r hr).2.1 hm.size, ?_⟩⟩
  rcases hv with hv | ⟨r', hv, hr'⟩
  · rw [hv]; exact (key.2 r hr).2.2
  · rw [hv]
    intro e
    cases e
    have := (key.2 _ hr).2.1
    omega
end Go.Proofs.YtmakpbjknklpiaaGreat

/- Homes behind a transaction: walked. -/
namespace Go.Proofs.YtmakpbjknklpiaaGreat
open Go.RowKit Go.Tn Go.Tn.Bt Go.Tn.Lp Go.Tn.Dk
end Go.Proofs.YtmakpbjknklpiaaGreat

/- A disk with a fuse: what its calls may leave. Plain. -/
namespace Go.Proofs.YtmakpbjknklpiaaGreat
open Go.RowKit Go.Tn Go.Tn.Bt Go.Tn.Lp Go.Tn.Dk
theorem live_write {d : Dsk} (i : Nat) (b : List Nat) :
    (d.dead = 7 ∧ (d.write i b).off = true ∧ (d.write i b).L = d.L ∧ (d.write i b).Q = d.Q) ∨ (d.dead = 0 ∧ (d.write i b).off = false ∧ (d.write i b).L = d.L ∧ (d.write i b).Q = d.Q ++ [(i, b)]) := by
  unfold Dsk.write Dsk.dead
  by_cases hs : d.step.off = true
  · rw [if_pos hs, if_pos hs]
    exact .inl ⟨rfl, hs, step_L d, step_Q d⟩
  · rw [if_neg hs, if_neg hs]
    exact .inr ⟨rfl, by simpa using hs, step_L d, rfl⟩
theorem live_flush {d : Dsk} :
    (d.dead = 7 ∧ d.flush.off = true ∧ d.flush.L = d.L ∧ d.flush.Q = d.Q) ∨ (d.dead = 0 ∧ d.flush.off = false ∧ d.flush.L = laid d.Q d.L ∧ d.flush.Q = []) := by
  unfold Dsk.flush Dsk.dead
  by_cases hs : d.step.off = true
  · rw [if_pos hs, if_pos hs]
    exact .inl ⟨rfl, hs, step_L d, step_Q d⟩
  · rw [if_neg hs, if_neg hs]
    exact .inr ⟨rfl, by simpa using hs, rfl, rfl⟩
theorem putPcs_live (n : Nat) : ∀ (ps : List Pc) (d : Dsk), d.off = false →
    ((putPcs n ps d).2 = 0 ∧ (putPcs n ps d).1.off = false ∧ (putPcs n ps d).1.L = d.L ∧ (putPcs n ps d).1.Q = d.Q ++ ringQ n ps) ∨
    ((putPcs n ps d).2 = 7 ∧ (putPcs n ps d).1.off = true ∧ (putPcs n ps d).1.L = d.L ∧ ∃ m, (putPcs n ps d).1.Q = d.Q ++ ringQ n (ps.take m))
  | [], d, h => .inl ⟨rfl, h, rfl, by simp [putPcs, ringQ]⟩
  | q :: r, d, _ => by
    simp only [putPcs]
    rcases live_write (d := d) (2 + q.ct % n) (sealB q) with ⟨h1, h2, h3, h4⟩ | ⟨h1, h2, h3, h4⟩
    · rw [if_pos (by rw [h1]; decide)]
      exact .inr ⟨h1, h2, h3, 0, by rw [h4]; simp [ringQ]⟩
    · rw [if_neg (by rw [h1]; decide)]
      rcases putPcs_live n r (d.write (2 + q.ct % n) (sealB q)) h2 with ⟨e1, e2, e3, e4⟩ | ⟨e1, e2, e3, m, e4⟩
      · exact .inl ⟨e1, e2, e3.trans h3, by rw [e4, h4]; simp [ringQ]⟩
      · exact .inr ⟨e1, e2, e3.trans h3, m + 1, by rw [e4, h4]; simp [ringQ]⟩
theorem bringGo_live (l : Lg) : ∀ (ks : List Nat) (d : Dsk), d.off = false →
    ((bringGo l ks d).2 = 0 ∧ (bringGo l ks d).1.off = false ∧ (bringGo l ks d).1.L = laid (d.Q ++ homeQ l ks) d.L ∧ (bringGo l ks d).1.Q = []) ∨
    ((bringGo l ks d).2 = 7 ∧ (bringGo l ks d).1.off = true ∧ (bringGo l ks d).1.L = d.L ∧ ∃ m, (bringGo l ks d).1.Q = d.Q ++ homeQ l (ks.take m))
  | [], d, _ => by
    simp only [bringGo]
    rcases live_flush (d := d) with ⟨h1, h2, h3, h4⟩ | ⟨h1, h2, h3, h4⟩
    · exact .inr ⟨h1, h2, h3, 0, by rw [h4]; simp [homeQ]⟩
    · exact .inl ⟨h1, h2, by rw [h3]; simp [homeQ], h4⟩
  | k :: ks, d, _ => by
    simp only [bringGo]
    rcases live_write (d := d) (2 + l.n + k) ((l.H k).getD []) with ⟨h1, h2, h3, h4⟩ | ⟨h1, h2, h3, h4⟩
    · rw [if_pos (by rw [h1]; decide)]
      exact .inr ⟨h1, h2, h3, 0, by rw [h4]; simp [homeQ]⟩
    · rw [if_neg (by rw [h1]; decide)]
      rcases bringGo_live l ks (d.write (2 + l.n + k) ((l.H k).getD [])) h2 with ⟨e1, e2, e3, e4⟩ | ⟨e1, e2, e3, m, e4⟩
      · exact .inl ⟨e1, e2, by rw [e3, h3, h4]; simp [homeQ], e4⟩
      · exact .inr ⟨e1, e2, e3.trans h3, m + 1, by rw [e4, h4]; simp [homeQ]⟩
theorem save_live (d : Dsk) (a ep : Nat) (x : Hd) :
    ((d.save a ep x).2 = 0 ∧ (d.save a ep x).1.off = false ∧ (d.save a ep x).1.L = laid (d.Q ++ [(a + x.gen % 2, sealB (headPc ep x))]) d.L ∧ (d.save a ep x).1.Q = []) ∨
    ((d.save a ep x).2 = 7 ∧ (d.save a ep x).1.off = true ∧ (d.save a ep x).1.L = d.L ∧ ((d.save a ep x).1.Q = d.Q ∨ (d.save a ep x).1.Q = d.Q ++ [(a + x.gen % 2, sealB (headPc ep x))])) := by
  unfold Dsk.save
  by_cases hs : d.step.off = true
  · rw [if_pos hs]
    exact .inr ⟨rfl, hs, step_L d, .inl (step_Q d)⟩
  · rw [if_neg hs]
    rcases live_write (d := d) (a + x.gen % 2) (sealB (headPc ep x)) with ⟨h1, h2, h3, h4⟩ | ⟨h1, h2, h3, h4⟩
    · exfalso
      unfold Dsk.dead at h1
      rw [if_neg hs] at h1
      cases h1
    · rcases live_flush (d := d.write (a + x.gen % 2) (sealB (headPc ep x))) with ⟨e1, e2, e3, e4⟩ | ⟨e1, e2, e3, e4⟩
      · exact .inr ⟨e1, e2, e3.trans h3, .inr (by rw [e4, h4])⟩
      · exact .inl ⟨e1, e2, by rw [e3, h3, h4], e4⟩
/-- The homes that records leave. -/
def homesOf (n : Nat) (d : Dsk) (H : Nat → Option (List Nat)) : List (List Nat) := (List.range (d.L.length - 2 - n)).map fun k => (H k).getD (d.get (2 + n + k))
theorem homesOf_same {n : Nat} {d d' : Dsk} {H : Nat → Option (List Nat)} (hL : d'.L.length = d.L.length) (h : ∀ k, k < d.L.length - 2 - n → H k = none → d'.get (2 + n + k) = d.get (2 + n + k)) : homesOf n d' H = homesOf n d H := by
  unfold homesOf
  rw [hL]
  refine List.map_congr_left fun k hk => ?_
  cases hH : H k with
  | some b => rfl
  | none => exact h k (List.mem_range.1 hk) hH
/-- What a crash may leave is one of these. -/
def Outs (n i : Nat) (d : Dsk) (S : List (List (List Nat))) : Prop := ∀ keep torn, ∃ gen tail F D, Says (d.crash keep torn) n gen tail F D ∧ gen ≤ i ∧ endCt tail D ≤ 100 * i ∧ F ≤ 16777215 ∧
  (∀ j, j < 2 + n → SectA (256 * i + 255) ((d.crash keep torn).get j)) ∧ homesOf n (d.crash keep torn) (applyH (fun _ => none) D) ∈ S
/-- The homes that the first ones of the records leave. -/
def steps (n : Nat) (d : Dsk) (D P : List Rc) : List (List (List Nat)) := (List.range (P.length + 1)).map fun j => homesOf n d (applyH (fun _ => none) (D ++ P.take j))
theorem steps_mem {n : Nat} {d : Dsk} {D P : List Rc} {j : Nat} (hj : j ≤ P.length) : homesOf n d (applyH (fun _ => none) (D ++ P.take j)) ∈ steps n d D P := List.mem_map.2 ⟨j, List.mem_range.2 (by omega), rfl⟩
theorem steps_snoc {n : Nat} {d : Dsk} {D P : List Rc} (r : Rc) : steps n d D (P ++ [r]) = steps n d D P ++ [homesOf n d (applyH (fun _ => none) (D ++ (P ++ [r])))] := by
  unfold steps
  rw [List.length_append, List.length_singleton, List.range_succ, List.map_append]
  congr 1
  · refine List.map_congr_left fun j hj => ?_
    have := List.mem_range.1 hj
    rw [List.take_append_of_le_length (by omega)]
  · rw [List.map_singleton, List.take_of_length_le (by simp)]
structure KLive (n i : Nat) (l : Lg) (d : Dsk) (S : List (List (List Nat))) : Prop where
  ex : ∃ F D P, Rg d l F D P ∧ F ≤ 16777215 ∧ S = steps n d.last D P
  kp : Keep d.last l
  on : d.off = false
  err : l.err = 0
  rn : l.n = n
  ep : l.epoch ≤ 256 * i + 1
  nx : l.next ≤ 100 * i
  gen : l.gen ≤ i
structure KDead (n i : Nat) (l : Lg) (d : Dsk) (S : List (List (List Nat))) : Prop where
  outs : Outs n i d S
  off : d.off = true
  err : l.err = 7
  rn : l.n = n
  fit : l.fit d
  nx : l.next ≤ 100 * i
  dok : d.ok
/-- Where the power is on: a crash leaves one of the states. -/
theorem live_outs {n i : Nat} {d : Dsk} {l : Lg} {F : Nat} {D P : List Rc} {m : Nat} (hb : Base d.last l F D) (hk : Keep d.last l) (hfit : l.fit d) (hd : d.ok) (hg : Goods (l.homes d) l.epoch (endCt l.tail D) P) (hroom : endCt (endCt l.tail D) P ≤ l.tail + l.n)
    (hQ : d.Q = ringQ l.n ((allPcs (endCt l.tail D) P).take m)) (hn : l.n = n) (hF : F ≤ 16777215) (hgen : l.gen ≤ i) (hnx : endCt (endCt l.tail D) P ≤ 100 * i) (hep : l.epoch ≤ 256 * i + 1) : Outs n i d (steps n d.last D P) := by
  intro keep torn
  subst hn
  obtain ⟨⟨j, hj, hs⟩, hse, hho⟩ := crash_ring (keep := keep) (torn := torn) hb hk hfit hd hg hroom hQ
  refine ⟨l.gen, l.tail, F, _, hs, hgen, ?_, hF, fun k hk => (hse k hk).mono (by omega), ?_⟩
  · rw [endCt_append]
    have h1 : endCt (endCt l.tail D) (P.take j) ≤ endCt (endCt l.tail D) P := by
      conv => rhs; rw [← List.take_append_drop j P]
      rw [endCt_append]
      have := endCt_le (P.drop j) (endCt (endCt l.tail D) (P.take j))
      omega
    omega
  · rw [homesOf_same (d := d.last) (crash_L d keep torn) fun k _ _ => hho k]
    exact steps_mem hj
end Go.Proofs.YtmakpbjknklpiaaGreat
