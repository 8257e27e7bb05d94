/- Held: Reboot, Claim, Settled walked. -/
import Derived.Test.YthckjciblngaaaaHc
import Derived.Test.YthckjciblngaaaaRng
namespace Go.Proofs.Ythckjciblngaaaa
open Go.RowKit Go.Tn Go.Maps Go.Sort Go.Shelf

/-- All that it has, not claimed. -/
def unG (G : Gs) : Gs := fun f => (G f).map fun o => ⟨o.mode, o.ver, false⟩
section
variable {w : World} {b m lb : Nat} {ph se bo : Int} {L : Ents Fi} {clk : Nat} {G : Gs} {wv : Value} {W : List Fi} {t u : Nat}
theorem reboot_no (h : HAt w b m lb ph se bo L clk G wv W t u) (boot : Int) (hp : ph = 0 ∨ boot ≤ bo) : Calls Try.prog 20 #[.pointer (some ⟨b, 0, none⟩), .int .u64 boot] w
    fun e w' => e = .returned (.int .i64 2) ∧ w' = w := by
  have c0 := h.c0
  have c1 := h.c1
  have c3 := h.c3
  by_cases h0 : ph = 0
  · subst h0
    clear hp
    go_enter Try.func20, Try.ntmps20
    go_wp2_with (go_at_call 30; refine (ok_any _ b lb c0).mono ?_; rintro e w ⟨rfl, rfl⟩)
    go_ret
    exact ⟨rfl, rfl⟩
  · have h1 : boot ≤ bo := by omega
    have t1 : (ph == 0) = false := by simpa using h0
    clear hp h0
    go_enter Try.func20, Try.ntmps20
    go_wp2_with (go_at_call 30; refine (ok_any _ b lb c0).mono ?_; rintro e w ⟨rfl, rfl⟩)
    go_ret
    exact ⟨rfl, rfl⟩

/-- While the map is gone through. -/
structure Reb (b m lb it : Nat) (se boot : Int) (L : Ents Fi) (clk : Nat) (G : Gs) (t u : Nat) (seen : Array Nat) (ss : List Fi) (Lr : Ents Fi) (w0 wr : World) : Prop where
  at_ : HAt wr b m lb 1 se boot Lr clk (fun f => if f ∈ ss then unG G f else G f) (.slice none 0 0) [] t u
  ks : ksL Lr = ksL L
  it : wr.heap[it]? = some (.mapIter (some m) clk seen clk)
  seen : KeysSeen L seen ss
  mod : Mod (fun x => x = m) w0 wr
theorem Reb.start (h : HAt w b m lb 1 se bo L clk G (.slice none 0 0) [] t u) : Reb b m lb w.heap.size se bo L clk G t u #[] [] L w (w.alloc (.mapIter (some m) clk #[] clk)) := by
  have hal : Below w.heap.size w (w.alloc (.mapIter (some m) clk #[] clk)) := (Below.refl _ _).alloc (Nat.le_refl _) _
  refine ⟨?_, rfl, heap_alloc_at, KeysSeen.start L, (Mod.of_below hal).mono fun x hx hh => absurd hx (Nat.not_lt.2 hh)⟩
  have hG : (fun f => if f ∈ ([] : List Fi) then unG G f else G f) = G := by
    funext f
    rw [if_neg (by simp)]
  rw [hG]
  exact h.below hal
section
variable {it : Nat} {boot : Int} {seen : Array Nat} {ss : List Fi} {Lr : Ents Fi} {w0 wr : World}
theorem Reb.done (h : Reb b m lb it se boot L clk G t u seen ss Lr w0 wr) (hall : ∀ e ∈ Lr, e.2.2 ∈ seen) (hget : ∀ f, get f L = (G f).map enO) : HAt wr b m lb 1 se boot Lr clk (unG G) (.slice none 0 0) [] t u := by
  have hG : (fun f => if f ∈ ss then unG G f else G f) = unG G := by
    funext f
    by_cases hf : f ∈ ss
    · rw [if_pos hf]
    · rw [if_neg hf]
      unfold unG
      cases hGf : G f with
      | none => rfl
      | some o =>
        exfalso
        have hg := hget f
        rw [hGf] at hg
        have hne : Go.Tn.get f L ≠ none := by rw [hg]; simp
        have hex : ∃ e ∈ L, e.1 = f := Decidable.byContradiction fun hx => hne (get_none.2 fun e he hk => hx ⟨e, he, hk⟩)
        obtain ⟨e, he, hk⟩ := hex
        obtain ⟨e', he', hk', hs'⟩ := ksL_mem h.ks.symm he
        exact hf ((h.seen.mem f).2 ⟨e, he, hk, by rw [← hs']; exact hall e' he'⟩)
  rw [← hG]
  exact h.at_
theorem Reb.fresh (h : Reb b m lb it se boot L clk G t u seen ss Lr w0 wr) {e : Fi × Value × Nat} (he : e ∈ Lr) (hns : e.2.2 ∉ seen) : ∃ o, G e.1 = some o ∧ e.2.1 = enO o ∧ e.1 ∉ ss ∧ Go.Tn.get e.1 Lr ≠ none := by
  have hwL : WF L clk := h.at_.wf.ks h.ks.symm
  have hf : e.1 ∉ ss := fun hf => by
    obtain ⟨e1, h1, h2, h3⟩ := (h.seen.mem e.1).1 hf
    obtain ⟨e2, h4, h5, h6⟩ := ksL_mem h.ks he
    obtain ⟨n1, hn1⟩ := List.getElem?_of_mem h1
    obtain ⟨n2, hn2⟩ := List.getElem?_of_mem h4
    have := hwL.key hn1 n2 e2 hn2 (h5.trans h2.symm)
    subst this
    rw [hn1] at hn2
    cases hn2
    exact hns (by rw [← h6]; exact h3)
  have hg := get_of_mem h.at_.wf he
  have hg2 := h.at_.get e.1
  rw [if_neg hf, hg] at hg2
  cases hG : G e.1 with
  | none => rw [hG] at hg2; cases hg2
  | some o =>
    rw [hG] at hg2
    exact ⟨o, rfl, Option.some.inj hg2, hf, by rw [hg]; simp⟩
/-- A round behind. -/
theorem Reb.next (h : Reb b m lb it se boot L clk G t u seen ss Lr w0 wr) {e : Fi × Value × Nat} (he : e ∈ Lr) (hns : e.2.2 ∉ seen) {o : One} (hG : G e.1 = some o) (hf : e.1 ∉ ss) (hne : Go.Tn.get e.1 Lr ≠ none) (hit : it ≠ m) {w1 : World} (hm1 : Mod (fun x => x = it) wr w1) (hi1 : w1.heap[it]? = some (.mapIter (some m) clk (seen.push e.2.2) clk)) (hfit : ∀ x, foot b m lb (.slice none 0 0) x → x ≠ it) {w2 : World} (hw2 : w2 = setObjW w1 m (.map (ents encF (upd e.1 (enO ⟨o.mode, o.ver, false⟩) Lr clk)) (updClk e.1 Lr clk))) (hi0 : w0.heap.size ≤ it) :
    Reb b m lb it se boot L clk G t u (seen.push e.2.2) (ss ++ [e.1]) (upd e.1 (enO ⟨o.mode, o.ver, false⟩) Lr clk) w0 w2 ∧ iterLeftK w2 it m < iterLeftK wr it m := by
  obtain ⟨hk, hc⟩ := upd_ks (v := enO ⟨o.mode, o.ver, false⟩) (clk := clk) hne
  have h1 := h.at_.mod hm1 hfit
  have hmm := setObjW_mod (w := w1) m (.map (ents encF (upd e.1 (enO ⟨o.mode, o.ver, false⟩) Lr clk)) (updClk e.1 Lr clk))
  have h2 := h1.put e.1 ⟨o.mode, o.ver, false⟩ (setObjW_at h1.m_lt) hmm
  rw [← hw2] at h2 hmm
  rw [hc] at h2
  have hi2 : w2.heap[it]? = some (.mapIter (some m) clk (seen.push e.2.2) clk) := (hmm.block it (lt_of_block hi1) (fun e => hit e)).trans hi1
  have hGG : putG (fun f => if f ∈ ss then unG G f else G f) e.1 (some ⟨o.mode, o.ver, false⟩) = fun f => if f ∈ ss ++ [e.1] then unG G f else G f := by
    funext x
    unfold putG
    by_cases hx : x = e.1
    · subst hx
      rw [if_pos rfl, if_pos (by simp)]
      unfold unG
      rw [hG]
      rfl
    · rw [if_neg hx]
      show (if x ∈ ss then unG G x else G x) = _
      by_cases hxs : x ∈ ss
      · rw [if_pos hxs, if_pos (List.mem_append_left _ hxs)]
      · rw [if_neg hxs, if_neg (fun hh => by rcases List.mem_append.1 hh with hh | hh; exact hxs hh; exact hx (by simpa using hh))]
  rw [hGG] at h2
  have hwL : WF L clk := h.at_.wf.ks h.ks.symm
  obtain ⟨e2, h4, h5, h6⟩ := ksL_mem h.ks he
  have hmore := h.seen.more hwL h4 (by rw [h6]; exact hns)
  rw [h5, h6] at hmore
  refine ⟨⟨h2, hk.trans h.ks, hi2, hmore, (h.mod.trans hm1 (fun _ h => h) (fun x hx e => absurd hx (by omega))).trans hmm (fun _ h => h) (fun _ _ h => h)⟩, ?_⟩
  rw [iterLeftK_eq hi2 h2.map, iterLeftK_eq h.it h.at_.map, leftK_ks hk]
  exact leftK_push he hns
end

set_option maxRecDepth 20000 in
set_option maxHeartbeats 1000000 in
theorem reboot_yes (h : HAt w b m lb ph se bo L clk G wv W t u) (boot : Int) (hp : ph ≠ 0) (hb : bo < boot) : Calls Try.prog 20 #[.pointer (some ⟨b, 0, none⟩), .int .u64 boot] w
    fun e w' => e = .returned (.int .i64 0) ∧ HSome w' b m lb 1 se boot (unG G) (.slice none 0 0) [] t u L.length ∧ Mod (fun x => x = b ∨ x = m) w w' := by
  have c0 := h.c0
  have c1 := h.c1
  have c3 := h.c3
  have c4 := h.c4
  have c5 := h.c5
  have f1 := h.free (o := 1)
  have f3 := h.free (o := 3)
  have f5 := h.free (o := 5)
  have t1 : (ph == 0) = false := by simpa using hp
  clear hp
  obtain ⟨w3, hw3⟩ : ∃ w3, ((w.setCell ⟨b, 1, none⟩ (.int .i64 1)).setCell ⟨b, 3, none⟩ (.int .u64 boot)).setCell ⟨b, 5, none⟩ (.slice none 0 0) = w3 := ⟨_, rfl⟩
  have hmod : Mod (fun x => x = b) w w3 := by
    rw [← hw3]
    exact (((Mod.refl _ w).cell _ _).cell _ _).cell _ _
  have h3 : HAt w3 b m lb 1 se boot L clk G (.slice none 0 0) [] t u := by
    refine h.wnone ?_ hmod
    rw [← hw3]
    exact heap_setCell_at (heap_setCell_at (heap_setCell_at h.blk))
  have H3 := Lib.hid h3
  have HM := Lib.hid hmod
  have HW3 := Lib.hid hw3
  have hst := h3.map
  have HMAP := Lib.hid hst
  have hget : ∀ f, Go.Tn.get f L = (G f).map enO := h.get
  have HG := Lib.hid hget
  clear h h3 hmod hw3 hst hget
  go_enter Try.func20, Try.ntmps20
  go_upto_region 6 with (go_at_call 30; refine (ok_any _ b lb c0).mono ?_; rintro e w' ⟨rfl, hw⟩; obtain rfl := hw.symm; clear hw)
  rw [HW3.out]
  clear c0 c1 c3 c4 c5 f1 f3 f5
  have d4 := H3.out.c4
  have hml := H3.out.m_lt
  have hbl := H3.out.b_lt
  have hll := H3.out.l_lt
  go_wp2_with (first
    | ((with_reducible refine wpList_exec rfl (exec_range Try.underlying52 HMAP.out ?_) ?_); rfl; go_frame)
    | fail)
  go_loopw [40] (fun _ wr => ∃ seen ss Lr, Reb b m lb w3.heap.size se boot L clk G t u seen ss Lr w3 wr) (fun _ wr => iterLeftK wr w3.heap.size m)
  case atStart => exact ⟨#[], [], L, Reb.start H3.out⟩
  case round =>
    obtain ⟨seen, ss, Lr, hR⟩ := hrel
    have HR := Lib.hid hR
    rcases run_next (P := Try.prog) (ty := 0) hR.at_.map hR.it hR.at_.wf.lt with ⟨hall, hrun⟩ | ⟨e, he, hns, nd, hrun⟩
    · have hF := hR.done hall HG.out
      have HF := Lib.hid hF
      clear hR hF hall
      go_wp2_with (first
        | ((with_reducible refine wpList_exec rfl (exec_next_of hrun ?_) ?_); rfl; go_frame)
        | fail)
      go_ret
      exact ⟨rfl, ⟨_, _, HF.out, Nat.le_of_eq (ksL_len HR.out.ks)⟩, (HM.out.mono fun x _ h => .inl h).trans HR.out.mod (fun _ h => h) (fun _ _ h => .inr h)⟩
    · obtain ⟨o, hGo, hv, hf, hne⟩ := hR.fresh he hns
      obtain ⟨n, hk⟩ := List.getElem?_of_mem he
      obtain ⟨⟨fi, fg⟩, ev, st⟩ := e
      simp only at hGo hv hf hne he hns hk hrun
      subst hv
      obtain ⟨md, vr, cl⟩ := o
      have hsi : w3.heap.size < wr.heap.size := lt_of_block hR.it
      have hmd1 : Mod (fun x => x = w3.heap.size) wr (setObjW (wr.drewN nd) w3.heap.size (.mapIter (some m) clk (seen.push st) clk)) := ((Mod.refl _ wr).drewN nd).trans (setObjW_mod _ _) (fun _ h => h) (fun _ _ h => h)
      have hi1 : (setObjW (wr.drewN nd) w3.heap.size (.mapIter (some m) clk (seen.push st) clk)).heap[w3.heap.size]? = some (.mapIter (some m) clk (seen.push st) clk) := setObjW_at hsi
      obtain ⟨w1, hw1⟩ : ∃ w1, setObjW (wr.drewN nd) w3.heap.size (.mapIter (some m) clk (seen.push st) clk) = w1 := ⟨_, rfl⟩
      rw [hw1] at hmd1 hi1 hrun
      clear hw1
      have hfit : ∀ x, foot b m lb (.slice none 0 0) x → x ≠ w3.heap.size := fun x hx => by
        rcases hx with rfl | rfl | rfl | hx
        · omega
        · omega
        · omega
        · cases hx
      have hA1 := hR.at_.mod hmd1 hfit
      have hent : (Instr.entry (.pointer (some ⟨w3.heap.size, 0, none⟩))).run Try.prog w1 = .ok (.tuple #[encF (fi, fg), enO ⟨md, vr, cl⟩]) w1 := run_entry (P := Try.prog) hA1.map hi1 hk (hA1.wf.stamp hk)
      simp only [encF, enO] at hent hrun
      have HA1 := Lib.hid hA1
      have HI1 := Lib.hid hi1
      have HM1 := Lib.hid hmd1
      have HGO := Lib.hid hGo
      have HF := Lib.hid hf
      have HNE := Lib.hid hne
      have HE := Lib.hid he
      have HNS := Lib.hid hns
      clear hR hA1 hi1 hmd1 hGo hf hne he hns hk d4 HMAP
      go_upto_region 10 with (first
        | ((with_reducible refine wpList_exec rfl (exec_next_of hrun ?_) ?_); rfl; go_frame)
        | ((with_reducible refine wpList_exec rfl (exec_entry_of hent ?_) ?_); rfl; go_frame)
        | fail)
      have hb2 : Below w1.heap.size w1 ((w1.alloc (.cells #[.int .i64 fi, .int .i64 fg] 39)).alloc (.cells #[.int .i64 md, .int .u64 vr, .bool false] 68)) := ((Below.refl _ w1).alloc (Nat.le_refl _) _).alloc (by simp) _
      have hlO : Lies (((w1.alloc (.cells #[.int .i64 fi, .int .i64 fg] 39)).alloc (.cells #[.int .i64 md, .int .u64 vr, .bool false] 68))) (w1.heap.size + 1) 0 #[.int .i64 md, .int .u64 vr, .bool false] := by
        have h0 : Lies (((w1.alloc (.cells #[.int .i64 fi, .int .i64 fg] 39)).alloc (.cells #[.int .i64 md, .int .u64 vr, .bool false] 68))) (w1.alloc (.cells #[.int .i64 fi, .int .i64 fg] 39)).heap.size 0 #[.int .i64 md, .int .u64 vr, .bool false] := lies_of heap_alloc_at
        rwa [show (w1.alloc (.cells #[.int .i64 fi, .int .i64 fg] 39)).heap.size = w1.heap.size + 1 by simp] at h0
      have hal1 : Below w1.heap.size w1 (w1.alloc (.cells #[.int .i64 fi, .int .i64 fg] 39)) := (Below.refl _ w1).alloc (Nat.le_refl _) _
      have hA1b := HA1.out.below hal1
      have hS1 : MRd b m w1.heap.size fi fg Lr clk (((w1.alloc (.cells #[.int .i64 fi, .int .i64 fg] 39)).alloc (.cells #[.int .i64 md, .int .u64 vr, .bool false] 68))) := MRd.alloc (⟨hA1b.c4, hA1b.map, box_file⟩ : MRd b m w1.heap.size fi fg Lr clk (w1.alloc (.cells #[.int .i64 fi, .int .i64 fg] 39))) _
      have hm2 : Mod (fun x => x = w3.heap.size) wr (((w1.alloc (.cells #[.int .i64 fi, .int .i64 fg] 39)).alloc (.cells #[.int .i64 md, .int .u64 vr, .bool false] 68))) := (HM1.out.alloc _).alloc _
      have hi2 := heap_alloc_of (o := .cells #[.int .i64 md, .int .u64 vr, .bool false] 68) (heap_alloc_of (o := .cells #[.int .i64 fi, .int .i64 fg] 39) HI1.out)
      have HL := Lib.hid hlO
      have HS1 := Lib.hid hS1
      have HM2 := Lib.hid hm2
      have HI2 := Lib.hid hi2
      clear hlO hS1 hb2 hal1 hA1b hm2 hi2 hrun hent
      generalize hw5 : ((w1.alloc (.cells #[.int .i64 fi, .int .i64 fg] 39)).alloc (.cells #[.int .i64 md, .int .u64 vr, .bool false] 68)) = w5 at *
      clear hw5
      have hS2 : MRd b m w1.heap.size fi fg Lr clk w5.drew ∧ Lies w5.drew (w1.heap.size + 1) 0 #[.int .i64 md, .int .u64 vr, .bool false] := ⟨HS1.out.drew, HL.out⟩
      refine wp_region_x (fun w' => MRd b m w1.heap.size fi fg Lr clk w' ∧ Lies w' (w1.heap.size + 1) 0 #[.int .i64 md, .int .u64 vr, .bool false]) [(0, 1), (1, 1), (2, 1), (3, 0), (4, 0), (5, 0), (6, 3)] (by kernel_rfl) (by kernel_rfl) (by intro d v c a w h; cases d <;> exact h) ?_
      iterate 3 (refine x_take rfl (fun K hK => ?_); go_simp; refine hK _ ?_; clear hK K)
      refine x_read rfl hS2 (fun w' h => exec_load1 scalarMap rfl h.1.c4) ?_
      refine x_read rfl hS2 (fun w' h => exec_loadA (aggF _ _) rfl h.1.box) ?_
      refine x_read rfl hS2 (fun w' h => exec_loadA (aggO ⟨md, vr, false⟩) rfl h.2) ?_
      refine x_skip rfl (exec_mapUpdate (w := w5.drew) keyF Try.underlying52 hS2.1.map rfl (fi, fg) rfl) ?_
      refine x_nil ?_
      have hN := HR.out.next HE.out HNS.out HGO.out HF.out HNE.out (by omega) HM2.out.drew HI2.out hfit (w2 := setObjW w5.drew m (.map (ents encF (upd (fi, fg) (enO ⟨md, vr, false⟩) Lr clk)) (updClk (fi, fg) Lr clk))) rfl (Nat.le_refl _)
      have HN := Lib.hid hN
      clear hN hS2
      go_wp2
      go_roundw
      case rel => exact ⟨_, _, _, HN.out.1⟩
      case measure => exact HN.out.2
end
end Go.Proofs.Ythckjciblngaaaa
