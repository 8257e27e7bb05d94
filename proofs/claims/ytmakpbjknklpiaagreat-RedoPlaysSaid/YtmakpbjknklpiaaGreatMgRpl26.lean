/- The document's disk: Write, Flush, walked. -/
import Derived.Test.YtmakpbjknklpiaaGreatMgRpl25
import Derived.Test.YtmakpbjknklpiaaGreatMgRpl17
/- The document's disk: Step, Arm, Is, walked. -/
namespace Go.Proofs.YtmakpbjknklpiaaGreat
open Go.RowKit Go.Tn Go.Tn.Bt Go.Tn.Lp Go.Tn.Dk
theorem xstep_any {w : World} {S F : Nat → Prop} {p : Nat} {d : Dsk} (h : RDk w S F p d) : Calls Tryz.prog 92 #[.pointer (some ⟨p, 0, none⟩)] w
    fun e w' => e = .returned (.bool (!d.step.off)) ∧ RDk w' S F p d.step ∧ Mod (fun b => b = p) w w' := by
  have hfu := h.ok.fuse
  have hokS := h.ok.step
  have hinv := h.fuse
  obtain ⟨lv, qv, -, -, h1, -⟩ := h.ex
  have c2 := cell_of (o := 2) h1 rfl
  have c3 := cell_of (o := 3) h1 rfl
  have f2 := free_of (o := 2) h1
  have f3 := free_of (o := 3) h1
  have HD := Lib.hid h
  have HH := Lib.hid h1
  obtain ⟨L, Q, f, fd, off⟩ := d
  simp only at *
  clear h h1
  have hf63 : (f : Int) ≤ 9223372036854775807 := by omega
  cases fd with
  | false =>
    have ho : off = false := by
      cases off with
      | false => rfl
      | true => exact absurd (hinv rfl).1 (by decide)
    subst ho
    have e : (⟨L, Q, f, false, false⟩ : Dsk).step = ⟨L, Q, f, false, false⟩ := by simp [Dsk.step]
    rw [e]
    have e2 : fuseI ⟨L, Q, f, false, false⟩ = -1 := rfl
    rw [e2] at c2
    clear e e2 hinv hokS
    go_enter Tryz.func92, Tryz.ntmps92
    go_wp2
    go_ret
    exact ⟨rfl, HD.out, Mod.refl _ _⟩
  | true =>
    cases f with
    | zero =>
      have e : (⟨L, Q, 0, true, off⟩ : Dsk).step = ⟨L, Q, 0, true, true⟩ := by
        cases off <;> simp [Dsk.step]
      rw [e] at hokS ⊢
      have e2 : fuseI ⟨L, Q, 0, true, off⟩ = 0 := rfl
      rw [e2] at c2
      have hm : Mod (fun b => b = p) w (w.setCell ⟨p, 3, none⟩ (.bool true)) := (Mod.refl _ _).setCell _ _ fun _ => rfl
      have HX : Hid (RDk (w.setCell ⟨p, 3, none⟩ (.bool true)) S F p ⟨L, Q, 0, true, true⟩) := Lib.hid (HD.out.refuse 0 true true hm hokS (fun _ => ⟨rfl, rfl⟩) fun lv qv hh => (heap_setCell_at (o := 3) (v := .bool true) hh).trans (by simp [fuseI]))
      have HM := Lib.hid hm
      clear hm e e2 hinv hokS
      go_enter Tryz.func92, Tryz.ntmps92
      go_wp2
      go_ret
      exact ⟨rfl, HX.out, HM.out⟩
    | succ f =>
      have ho : off = false := by
        cases off with
        | false => rfl
        | true => exact absurd (hinv rfl).2 (by omega)
      subst ho
      have e : (⟨L, Q, f + 1, true, false⟩ : Dsk).step = ⟨L, Q, f, true, false⟩ := by simp [Dsk.step]
      rw [e] at hokS ⊢
      have e2 : fuseI ⟨L, Q, f + 1, true, false⟩ = ((f + 1 : Nat) : Int) := rfl
      rw [e2] at c2
      have hm : Mod (fun b => b = p) w (w.setCell ⟨p, 2, none⟩ (.int .i64 (f : Nat))) := (Mod.refl _ _).setCell _ _ fun _ => rfl
      have HX : Hid (RDk (w.setCell ⟨p, 2, none⟩ (.int .i64 (f : Nat))) S F p ⟨L, Q, f, true, false⟩) := Lib.hid (HD.out.refuse f true false hm hokS (fun e => absurd e (by decide)) fun lv qv hh => (heap_setCell_at (o := 2) (v := .int .i64 (f : Nat)) hh).trans (by simp [fuseI]))
      have HM := Lib.hid hm
      have hne : (((f + 1 : Nat) : Int) == 0) = false := by simp; omega
      have hgt : decide ((0 : Int) < ((f + 1 : Nat) : Int)) = true := decide_eq_true (by omega)
      have hsub : ((f + 1 : Nat) : Int) - 1 = f := by omega
      have hnn : (0 : Int) ≤ ((f + 1 : Nat) : Int) := by omega
      clear hm e e2 hinv hokS
      generalize ((f + 1 : Nat) : Int) = g at *
      have hw1 : IntKind.i64.wrap (g - 1) = (f : Int) := by rw [IntWalk.i64_in _ (by omega)]; exact hsub
      go_enter Tryz.func92, Tryz.ntmps92
      go_wp2
      go_ret
      exact ⟨rfl, HX.out, HM.out⟩
theorem xarm_any {w : World} {S F : Nat → Prop} {p : Nat} {d : Dsk} (h : RDk w S F p d) (n : Int) (hn : n < 9223372036854775808) :
    Calls Tryz.prog 18 #[.pointer (some ⟨p, 0, none⟩), .int .i64 n] w fun e w' => e = .returned (.int .i64 (d.armE n : Nat)) ∧ RDk w' S F p (d.arm n) ∧ Mod (fun b => b = p) w w' := by
  obtain ⟨lv, qv, -, -, h1, -⟩ := h.ex
  have c3 := cell_of (o := 3) h1 rfl
  have c2 := cell_of (o := 2) h1 rfl
  have f2 := free_of (o := 2) h1
  have HD := Lib.hid h
  clear h h1
  by_cases h0 : n < 0
  · have e1 : d.armE n = 2 := by unfold Dsk.armE; rw [if_pos h0]
    have e2 : d.arm n = d := by unfold Dsk.arm; rw [if_pos (.inl h0)]
    have h0' : decide (n < 0) = true := by simp [h0]
    rw [e1, e2]
    go_enter Tryz.func18, Tryz.ntmps18
    go_wp2
    go_ret
    exact ⟨rfl, HD.out, Mod.refl _ _⟩
  · have h0' : decide (n < 0) = false := by simp; omega
    by_cases hoff : d.off = true
    · have e1 : d.armE n = 7 := by unfold Dsk.armE; rw [if_neg h0, if_pos hoff]
      have e2 : d.arm n = d := by unfold Dsk.arm; rw [if_pos (.inr hoff)]
      rw [e1, e2]
      rw [hoff] at c3
      clear e1 e2
      go_enter Tryz.func18, Tryz.ntmps18
      go_wp2
      go_ret
      exact ⟨rfl, HD.out, Mod.refl _ _⟩
    · have hoff : d.off = false := by simpa using hoff
      have e1 : d.armE n = 0 := by unfold Dsk.armE; rw [if_neg h0, if_neg (by rw [hoff]; decide)]
      have e2 : d.arm n = ⟨d.L, d.Q, n.toNat, true, false⟩ := by unfold Dsk.arm; rw [if_neg (by rw [hoff]; simpa using h0)]; rw [hoff]
      have hok := HD.out.ok.arm hn
      rw [e2] at hok
      rw [e1, e2]
      rw [hoff] at c3
      have hm : Mod (fun b => b = p) w (w.setCell ⟨p, 2, none⟩ (.int .i64 n)) := (Mod.refl _ _).setCell _ _ fun _ => rfl
      have HX : Hid (RDk (w.setCell ⟨p, 2, none⟩ (.int .i64 n)) S F p ⟨d.L, d.Q, n.toNat, true, false⟩) := Lib.hid (HD.out.refuse n.toNat true false hm hok (fun e => absurd e (by decide)) fun lv qv hh => (heap_setCell_at (o := 2) (v := .int .i64 n) hh).trans (by rw [hoff]; simp [fuseI]; omega))
      have HM := Lib.hid hm
      clear e1 e2 hm hok
      go_enter Tryz.func18, Tryz.ntmps18
      go_wp2
      go_ret
      exact ⟨rfl, HX.out, HM.out⟩
theorem seenQ_snoc (Q : List (Nat × List Nat)) (q : Nat × List Nat) (i : Nat) (s : List Nat) : seenQ (Q ++ [q]) i s = if q.1 = i then q.2 else seenQ Q i s := by
  unfold seenQ
  rw [List.foldl_append]
  rfl
set_option maxRecDepth 20000 in
theorem xis_any {w : World} {S F : Nat → Prop} {p : Nat} {d : Dsk} (h : RDk w S F p d) (i : Nat) (hi : i < d.L.length) : Calls Tryz.prog 26 #[.pointer (some ⟨p, 0, none⟩), .int .i64 i] w
    fun e w' => (∃ s, e = .returned (sv s) ∧ Dat w S s (d.get i)) ∧ w' = w := by
  obtain ⟨lv, qv, xs, qs, h1, h2, h3, h4, h5, h6, h7, h8, h9⟩ := h.ex
  have hhi := h.ok.hi
  have hsm := h.ok.small
  have hxl : xs.length = d.L.length := by rw [← h2]; simp
  have hql : qs.length = d.Q.length := by rw [← h5]; simp
  obtain ⟨x, hx⟩ : ∃ x, xs[i]? = some x := ⟨_, List.getElem?_eq_getElem (by omega)⟩
  have hxL : d.L[i]? = some x.1 := by rw [← h2, List.getElem?_map, hx]; rfl
  have hdx := h4 x (List.mem_of_getElem? hx)
  obtain ⟨b, off, cap, rfl, hb, hl⟩ := (h3.sl elB.len).at_ hx
  obtain ⟨qo, qcap, rfl, q1, q2, q3⟩ := h6.sl elW.len
  obtain ⟨xb, ⟨xa, xn, xc⟩⟩ := x
  have c0 := cell_of (o := 0) h1 rfl
  have c1 := cell_of (o := 1) h1 rfl
  have p0 : w.cell? ⟨b, off + i, none⟩ = some (.slice xa xn xc) := by
    have := hl 0 (by simp [enB])
    simpa [enB, sv] using this
  have hget : d.get i = seenQ d.Q i xb := by unfold Dsk.get; rw [List.getD_eq_getElem?_getD, hxL]; rfl
  have hix : (i : Int) < (xs.length : Int) := by omega
  have hxs63 : (xs.length : Int) ≤ 4096 := by omega
  rw [hql] at c1 q1 q3
  have hQ63 : (d.Q.length : Int) ≤ 1000000000 := by omega
  rw [hget]
  have H5 := Lib.hid h5
  have H7 := Lib.hid h7
  have HQL := Lib.hid hql
  have HX := Lib.hid hdx
  clear h1 h2 h3 h4 h5 h6 h7 h8 h9 hx hxL hdx hl hget h hxl hql
  go_enter Tryz.func26, Tryz.ntmps26
  go_wp2
  go_loopw [5, 6] (fun bv kv wi => ∃ (k : Nat) (a : Option Addr) (n c : Nat), k ≤ d.Q.length ∧ kv = .int .i64 k ∧ bv = .slice a n c ∧ Dat w S (a, n, c) (seenQ (d.Q.take k) i xb) ∧ wi = w) (fun _ kv _ => d.Q.length - (intOf kv).toNat)
  case atStart => exact ⟨0, _, _, _, Nat.zero_le _, rfl, rfl, HX.out, rfl⟩
  case round =>
    obtain ⟨k, a, n, c, hk, rfl, rfl, hD, hw⟩ := hrel
    obtain rfl := hw.symm
    clear hw
    have HD := Lib.hid hD
    clear hD
    by_cases hlt : k < d.Q.length
    · have hd1 : decide (k < d.Q.length) = true := by simp [hlt]
      have hkl : (k : Int) < (d.Q.length : Int) := by omega
      obtain ⟨y, hy⟩ : ∃ y, qs[k]? = some y := ⟨_, List.getElem?_eq_getElem (by rw [HQL.out]; exact hlt)⟩
      obtain ⟨b4, o4, rfl, hb4, hc4⟩ := q3 (by omega)
      have hqy : d.Q[k]? = some y.1 := by rw [← H5.out, List.getElem?_map, hy]; rfl
      have hly := hc4 k y hy
      have hdy := H7.out y (List.mem_of_getElem? hy)
      have hsn := seenQ_snoc (d.Q.take k) y.1 i xb
      rw [← take_snoc hqy] at hsn
      obtain ⟨⟨at_, dat⟩, ⟨ya, yn, yc⟩⟩ := y
      have r0 : w.cell? ⟨b4, o4 + k * 2, none⟩ = some (.int .i64 (at_ : Nat)) := hly 0 (by simp [enW])
      have r1 : w.cell? ⟨b4, o4 + k * 2 + 1, none⟩ = some (.slice ya yn yc) := hly 1 (by simp [enW, sv])
      have HSN := Lib.hid hsn
      have HDY := Lib.hid hdy
      clear hsn hdy hly hy hqy hc4 q3
      by_cases hat : at_ = i
      · have hee : ((at_ : Int) == (i : Int)) = true := by simp [hat]
        have HAT := Lib.hid hat
        clear hat
        go_wp2
        go_roundw
        case rel => exact ⟨k + 1, _, _, _, by omega, by go_num, rfl, by rw [HSN.out, if_pos HAT.out]; exact HDY.out, trivial⟩
        case measure => simp [intOf]; omega
      · have hee : ((at_ : Int) == (i : Int)) = false := by rw [beq_eq_false_iff_ne]; omega
        have HAT := Lib.hid hat
        clear hat
        go_wp2
        go_roundw
        case rel => exact ⟨k + 1, _, _, _, by omega, by go_num, rfl, by rw [HSN.out, if_neg HAT.out]; exact HD.out, trivial⟩
        case measure => simp [intOf]; omega
    · obtain rfl : k = d.Q.length := by omega
      have hd1 : decide (d.Q.length < d.Q.length) = false := by simp
      have hD := HD.out
      rw [List.take_length] at hD
      have HD := Lib.hid hD
      clear hD
      go_wp2
      go_ret
      exact ⟨⟨_, rfl, HD.out⟩, rfl⟩
end Go.Proofs.YtmakpbjknklpiaaGreat

/- The document's disk: Write, Flush, walked. -/
namespace Go.Proofs.YtmakpbjknklpiaaGreat
open Go.RowKit Go.Tn Go.Tn.Bt Go.Tn.Lp Go.Tn.Dk
set_option maxRecDepth 20000 in
set_option maxHeartbeats 4000000 in
theorem xwrite_any {w : World} {S F : Nat → Prop} {p : Nat} {d : Dsk} (h : RDk w S F p d) (i : Nat) (hi : i < d.L.length) (s : Sv) (bs : List Nat) (hv : Dat w S s bs) (hbs : secB bs) (hs : d.Q.length < 1000000000) :
    Calls Tryz.prog 60 #[.pointer (some ⟨p, 0, none⟩), .int .i64 i, sv s] w
    fun e w' => e = .returned (.int .i64 (d.dead : Nat)) ∧ ∃ S' F', RDk w' S' F' p (d.write i bs) ∧ RTo w w' S F S' F' := by
  have hst := xstep_any h
  have hokw := h.ok.write hi hbs hs
  have hhi := h.ok.hi
  have hfs := h.fs
  have hfp := h.fp
  have hpw := h.lt p (hfs p hfp)
  obtain ⟨lv, qv, xs, qs, h1, h2, h3, -⟩ := h.ex
  have hxl : xs.length = d.L.length := by rw [← h2]; simp
  obtain ⟨la, lc, rfl, l1, l2, -⟩ := h3.sl elB.len
  rw [hxl] at h1
  have c0 := cell_of (o := 0) h1 rfl
  obtain ⟨sa, sn, sc⟩ := s
  obtain ⟨ao, cap, hvv, v1, v2, -⟩ := id hv.rd
  obtain ⟨rfl, rfl, rfl⟩ : sa = ao ∧ sn = bs.length ∧ sc = cap := by simpa [sv] using hvv
  rw [hbs.1] at hv v1 ⊢
  have hpv : ∀ r, (sv (sa, 128, sc)).ownBlock = some r → ¬ r = p := fun r hr e => (hv.out r hr).1 (e ▸ hfs p hfp)
  have HV := Lib.hid hv
  have HPV := Lib.hid hpv
  have HOK := Lib.hid hokw
  have HBS := Lib.hid hbs
  have HFS := Lib.hid hfs
  have HFP := Lib.hid hfp
  have HD0 := Lib.hid h
  have hiL : (i : Int) < (d.L.length : Int) := by omega
  have hi0 : decide ((i : Int) < 0) = false := decide_eq_false (by omega)
  have hiL' : decide ((d.L.length : Int) ≤ (i : Int)) = false := decide_eq_false (by omega)
  have hL63 : (d.L.length : Int) ≤ 4096 := by omega
  unfold maxLen at v2
  show Calls Tryz.prog 60 #[.pointer (some ⟨p, 0, none⟩), .int .i64 i, .slice sa 128 sc] w _
  clear h hv hpv hokw hbs hfs hfp h1 h2 h3 hvv hxl l1 l2
  by_cases hoff : d.step.off = true
  · have hdead : d.dead = 7 := by unfold Dsk.dead; rw [if_pos hoff]
    have hwr : d.write i bs = d.step := by unfold Dsk.write; rw [if_pos hoff]
    rw [hdead, hwr]
    rw [hoff] at hst
    clear hdead hwr hoff
    go_enter Tryz.func60, Tryz.ntmps60
    go_wp2_with (first
      | (go_at_call 92; refine hst.mono ?_; rintro e w2 ⟨rfl, hD, hm⟩; have HD := Lib.hid hD; have HM := Lib.hid hm; clear hD hm)
      | fail)
    go_ret
    exact ⟨rfl, S, F, HD.out, RTo.of_mod S (HM.out.mono fun x _ hx => by rw [hx]; exact HFP.out)⟩
  · have hoff : d.step.off = false := by simpa using hoff
    have hdead : d.dead = 0 := by unfold Dsk.dead; rw [if_neg (by rw [hoff]; decide)]
    have hwr : d.write i bs = { d.step with Q := d.Q ++ [(i, bs)] } := by unfold Dsk.write; rw [if_neg (by rw [hoff]; decide)]
    rw [hdead]
    rw [hoff] at hst
    have HWR := Lib.hid hwr
    clear hdead hwr hoff
    go_enter Tryz.func60, Tryz.ntmps60
    go_upto_region 5 with (first
      | (go_at_call 92; refine hst.mono ?_; rintro e w2 ⟨rfl, hD, hm⟩; have HD := Lib.hid hD; have HM := Lib.hid hm; clear hD hm)
      | fail)
    obtain ⟨lv', qv', xs', qs', h1, h2, h3, h4, h5, h6, h7, h8, h9⟩ := HD.out.ex
    rw [step_L] at h2
    rw [step_Q] at h5
    obtain ⟨qa, qn, qc, rfl⟩ := h6.shape
    have hql : qs'.length ≤ 1000000000 := by
      have : qs'.length = d.Q.length := by rw [← h5]; simp
      omega
    have c1 := cell_of (o := 1) h1 rfl
    have hv2 : LSl en8 1 w2 (.slice sa 128 sc) bs := HV.out.rd.mod HM.out fun r hr => HPV.out r hr
    have hcp := rcopy_any w2 _ _ hv2 (by rw [HBS.out.1]; decide)
    have hpq : ¬ (Value.slice qa qn qc).ownBlock = some p := fun e => (h9 p e).1 rfl
    have H1 := Lib.hid h1
    have H2 := Lib.hid h2
    have H3 := Lib.hid h3
    have H4 := Lib.hid h4
    have H5 := Lib.hid h5
    have H6 := Lib.hid h6
    have H7 := Lib.hid h7
    have H8 := Lib.hid h8
    have H9 := Lib.hid h9
    have HPQ := Lib.hid hpq
    have hpw2 : p < w2.heap.size := Nat.lt_of_lt_of_le hpw HM.out.size
    clear h1 h2 h3 h4 h5 h6 h7 h8 h9 hpq hv2
    go_wp2_with (first
      | (go_at_call 45; refine hcp.mono ?_; rintro e w3 ⟨v3, rfl, hO3, hb3⟩; obtain ⟨a3, n3, c3, rfl⟩ := LOut.shape hO3; have HO3 := Lib.hid hO3; have HB3 := Lib.hid hb3; clear hO3 hb3 hcp c1; go_frame)
      | ((with_reducible refine wpList_append1Y elW (H6.out.below HB3.out) ((i, bs), (a3, n3, c3)) hql ?_ ?_ ?_ ?_); rfl; rfl; rfl; (intro v4 w4 hO4 hm4 hv4; obtain ⟨a4, n4, c4, rfl⟩ := LOut.shape hO4; have HH4 := Lib.hid (hm4.heap ((HB3.out.block p hpw2).trans H1.out) HPQ.out); have d1 := cell_of (o := 1) HH4.out rfl; have g1 := free_of (o := 1) HH4.out; have HO4 := Lib.hid hO4; have HM4 := Lib.hid hm4; have HV4 := Lib.hid hv4; clear hO4 hm4 hv4); go_frame)
      | fail)
    go_ret
    have hh := heap_setCell_at (o := 1) (v := .slice a4 n4 c4) HH4.out
    have hm5 : Mod (fun b => b = p) w4 (w4.setCell ⟨p, 1, none⟩ (.slice a4 n4 c4)) := (Mod.refl _ _).setCell _ _ fun _ => rfl
    generalize w4.setCell ⟨p, 1, none⟩ (.slice a4 n4 c4) = w5 at *
    have hlt4 : ∀ k, (Value.slice a4 n4 c4).ownBlock = some k → k < w4.heap.size := fun k hk => HO4.out.lt hk
    have hown : ∀ k, (Value.slice a4 n4 c4).ownBlock = some k → (F k ∧ k ≠ p ∧ (Value.slice qa qn qc).ownBlock = some k) ∨ w3.heap.size ≤ k := fun k hk => by
      rcases HV4.out with e | ⟨r, e, hr⟩
      · rw [e] at hk
        exact .inl ⟨(H9.out k hk).2, (H9.out k hk).1, hk⟩
      · rw [e] at hk
        cases hk
        exact .inr hr
    have s23 := HB3.out.size
    have hp4 : ∀ k, (Value.slice a4 n4 c4).ownBlock = some k → k ≠ p := fun k hk e => by
      rcases hown k hk with h | h
      · exact h.2.1 e
      · omega
    have hm25 : Mod F w2 w5 := by
      refine ((mod0 HB3.out).trans (T := F) HM4.out (fun _ h => h.elim) fun x _ hx => (H9.out x hx).2).trans hm5 (fun _ h => h) fun x _ hx => by rw [hx]; exact HFP.out
    have kb : ∀ b, b < w2.heap.size → b ≠ p → (Value.slice qa qn qc).ownBlock ≠ some b → w5.heap[b]? = w2.heap[b]? := fun b hb h1 h2 =>
      ((hm5.block b (Nat.lt_of_lt_of_le (Nat.lt_of_lt_of_le hb s23) HM4.out.size) h1).trans (HM4.out.block b (Nat.lt_of_lt_of_le hb s23) h2)).trans (HB3.out.block b hb)
    have hS' : ∀ b, (S b ∨ (Value.slice a4 n4 c4).ownBlock = some b) → S b ∨ w2.heap.size ≤ b := fun b hb => by
      rcases hb with hb | hb
      · exact .inl hb
      · rcases hown b hb with h | h
        · exact .inl (HFS.out b h.1)
        · exact .inr (by omega)
    have hlt2 := HD.out.lt
    refine ⟨rfl, fun b => S b ∨ (Value.slice a4 n4 c4).ownBlock = some b, fun b => F b ∨ (Value.slice a4 n4 c4).ownBlock = some b, ⟨HOK.out, ⟨lv', .slice a4 n4 c4, xs', qs' ++ [((i, bs), (a3, n3, c3))], ?_, ?_, ?_, ?_, ?_, ?_, ?_, ?_, ?_⟩, .inl HFP.out, fun b hb => hb.imp (HFS.out b) id, ?_, ?_⟩, ?_⟩
    · rw [HWR.out]
      exact hh
    · rw [HWR.out]
      exact H2.out.trans (step_L d).symm
    · exact H3.out.kept hm25.size fun k hk => kb k (hlt2 k (HFS.out k (H8.out k hk).2.1)) (H8.out k hk).1 (H8.out k hk).2.2
    · exact fun x hx => (H4.out x hx).turn hm25 HFS.out hS'
    · rw [HWR.out, List.map_append, H5.out]
      rfl
    · exact HO4.out.kept hm5.size fun k hk => hm5.block k (hlt4 k hk) (hp4 k hk)
    · intro x hx
      rcases List.mem_append.1 hx with hx | hx
      · exact (H7.out x hx).turn hm25 HFS.out hS'
      · rw [List.mem_singleton.1 hx]
        have hqk : ∀ r, (Value.slice a3 n3 c3).ownBlock = some r → w2.heap.size ≤ r ∧ r < w3.heap.size := fun r hr => ⟨HO3.out.lo r hr, HO3.out.lt hr⟩
        refine ⟨(((HO3.out.sl el8.len).mod HM4.out fun r hr e => ?_).mod hm5 fun r hr e => ?_), fun r hr => ⟨fun e => ?_, ?_⟩⟩
        · have := (hqk r hr).1
          have := hlt2 r (HFS.out r (H9.out r e).2)
          omega
        · have := (hqk r hr).1
          omega
        · have h1 := hqk r hr
          rcases e with e | e
          · have := hlt2 r e
            omega
          · rcases hown r e with h | h
            · have := hlt2 r (HFS.out r h.1)
              omega
            · omega
        · have := (hqk r hr).2
          have := HM4.out.size
          have := hm5.size
          omega
    · intro k hk
      refine ⟨(H8.out k hk).1, .inl (H8.out k hk).2.1, fun e => ?_⟩
      rcases hown k e with h | h
      · exact (H8.out k hk).2.2 h.2.2
      · have := hlt2 k (HFS.out k (H8.out k hk).2.1)
        omega
    · exact fun k hk => ⟨hp4 k hk, .inr hk⟩
    · rintro b (hb | hb)
      · exact Nat.lt_of_lt_of_le (hlt2 b hb) hm25.size
      · exact Nat.lt_of_lt_of_le (hlt4 b hb) hm5.size
    · rw [HWR.out]
      exact HD.out.fuse
    · refine ⟨HM.out.trans hm25 (fun x hx => by rw [hx]; exact HFP.out) fun _ _ h => h, fun b hb => .inl hb, fun b hb => ?_, fun b hb => ?_⟩
      · have := HM.out.size
        exact (hS' b hb).imp id fun h => by omega
      · have := HM.out.size
        rcases hb with hb | hb
        · exact .inl hb
        · rcases hown b hb with h | h
          · exact .inl h.1
          · exact .inr (by omega)
set_option maxRecDepth 20000 in
set_option maxHeartbeats 4000000 in
theorem xflush_any {w : World} {S F : Nat → Prop} {p : Nat} {d : Dsk} (h : RDk w S F p d) :
    Calls Tryz.prog 62 #[.pointer (some ⟨p, 0, none⟩)] w fun e w' => e = .returned (.int .i64 (d.dead : Nat)) ∧ RDk w' S F p d.flush ∧ Mod F w w' := by
  have hst := xstep_any h
  have HOK := Lib.hid h.ok.flush
  have HQQ := Lib.hid h.ok.que
  have HFS := Lib.hid h.fs
  have HFP := Lib.hid h.fp
  have hhi := h.ok.hi
  have hsm := h.ok.small
  clear h
  by_cases hoff : d.step.off = true
  · have hdead : d.dead = 7 := by unfold Dsk.dead; rw [if_pos hoff]
    have hwr : d.flush = d.step := by unfold Dsk.flush; rw [if_pos hoff]
    rw [hdead, hwr]
    rw [hoff] at hst
    clear hdead hwr hoff
    go_enter Tryz.func62, Tryz.ntmps62
    go_wp2_with (first
      | (go_at_call 92; refine hst.mono ?_; rintro e w2 ⟨rfl, hD, hm⟩; have HD := Lib.hid hD; have HM := Lib.hid hm; clear hD hm)
      | fail)
    go_ret
    exact ⟨rfl, HD.out, HM.out.mono fun x _ hx => by rw [hx]; exact HFP.out⟩
  · have hoff : d.step.off = false := by simpa using hoff
    have hdead : d.dead = 0 := by unfold Dsk.dead; rw [if_neg (by rw [hoff]; decide)]
    have hwr : d.flush = { d.step with L := laid d.Q d.L, Q := [] } := by unfold Dsk.flush; rw [if_neg (by rw [hoff]; decide)]
    rw [hdead]
    rw [hoff] at hst
    have HWR := Lib.hid hwr
    clear hdead hwr hoff
    go_enter Tryz.func62, Tryz.ntmps62
    go_upto_region 3 with (first
      | (go_at_call 92; refine hst.mono ?_; rintro e w2 ⟨rfl, hD, hm⟩; have HD := Lib.hid hD; have HM := Lib.hid hm; clear hD hm)
      | fail)
    obtain ⟨lv, qv, xs, qs, h1, h2, h3, h4, h5, h6, h7, h8, h9⟩ := HD.out.ex
    rw [step_L] at h2
    rw [step_Q] at h5
    have hxl : xs.length = d.L.length := by rw [← h2]; simp
    have hql : qs.length = d.Q.length := by rw [← h5]; simp
    have hlo := HD.out.ok.lo
    rw [step_L] at hlo
    obtain ⟨x0, hx0⟩ : ∃ x, xs[0]? = some x := ⟨_, List.getElem?_eq_getElem (by omega)⟩
    obtain ⟨lb, lo, lc, rfl, -, -⟩ := (h3.sl elB.len).at_ hx0
    obtain ⟨rfl, -⟩ := h3.whole
    rw [hxl] at h1 h3 h8
    obtain ⟨qa, qc, rfl, hq1, hq2, hq3⟩ := h6.sl elW.len
    rw [hql] at h1 h6 h8 h9 hq1 hq3
    unfold maxLen at hq2
    have c0 := cell_of (o := 0) h1 rfl
    have c1 := cell_of (o := 1) h1 rfl
    have g1 := free_of (o := 1) h1
    have hlp := (h8 lb rfl).1
    have hql' := (h8 lb rfl).2.2
    have H1 := Lib.hid h1
    have H2 := Lib.hid h2
    have H3 := Lib.hid h3
    have H4 := Lib.hid h4
    have H5 := Lib.hid h5
    have H6 := Lib.hid h6
    have H7 := Lib.hid h7
    have H8 := Lib.hid h8
    have H9 := Lib.hid h9
    have HQ3 := Lib.hid hq3
    have HQL := Lib.hid hql
    have hQ63 : (d.Q.length : Int) ≤ 1000000000 := by omega
    have hL63 : (d.L.length : Int) ≤ 4096 := by omega
    clear h1 h2 h3 h4 h5 h6 h7 h8 h9 hq3 hx0 hxl hql c0
    have HLQ := Lib.hid hql'
    have HLP := Lib.hid hlp
    clear hql' hlp
    go_wp2_with fail
    go_loopw [3] (fun iv wi => ∃ k : Nat, k ≤ d.Q.length ∧ iv = .int .i64 k ∧ (∃ zs : List (List Nat × Sv), zs.map (·.1) = laid (d.Q.take k) d.L ∧ LOut enB 1 53 0 wi (.slice (some ⟨lb, 0, none⟩) d.L.length lc) zs ∧ ∀ x ∈ zs, Dat w2 S x.2 x.1) ∧ Mod (fun b => b = lb) w2 wi) (fun iv _ => d.Q.length - (intOf iv).toNat)
    case atStart => exact ⟨0, Nat.zero_le _, rfl, ⟨xs, H2.out, H3.out, H4.out⟩, Mod.refl _ _⟩
    case round =>
      obtain ⟨k, hk, rfl, ⟨zs, hz1, hz2, hz3⟩, hm⟩ := hrel
      have h1r := hm.heap H1.out fun e => HLP.out e.symm
      have c0 := cell_of (o := 0) h1r rfl
      have c1 := cell_of (o := 1) h1r rfl
      have g1 := free_of (o := 1) h1r
      by_cases hkl : k < d.Q.length
      · have hkl' : (k : Int) < (d.Q.length : Int) := by omega
        obtain ⟨y, hy⟩ : ∃ y, qs[k]? = some y := ⟨_, List.getElem?_eq_getElem (by rw [HQL.out]; exact hkl)⟩
        have hqy : d.Q[k]? = some y.1 := by rw [← H5.out, List.getElem?_map, hy]; rfl
        have hdy := H7.out y (List.mem_of_getElem? hy)
        have hqi := (HQQ.out _ (List.mem_of_getElem? hqy)).1
        obtain ⟨gq, go, rfl, hgl, hcq⟩ := HQ3.out (by omega)
        have hgr : ¬ gq = lb := fun e => HLQ.out (by rw [e]; rfl)
        have hlq := lies_mod (S := fun b => b = lb) (hcq k _ hy) hm hgr
        have hlt2 := laid_take d.Q d.L k _ hqy
        obtain ⟨⟨at_, dat⟩, ⟨ya, yn, yc⟩⟩ := y
        simp only at hqi
        have r0 : wr.drew.cell? ⟨gq, go + k * 2, none⟩ = some (.int .i64 (at_ : Nat)) := hlq 0 (by simp [enW])
        have r1 : wr.drew.cell? ⟨gq, go + k * 2 + 1, none⟩ = some (.slice ya yn yc) := hlq 1 (by simp [enW, sv])
        have hzl : zs.length = d.L.length := by
          have := congrArg List.length hz1
          rw [laid_len] at this
          simpa using this
        have hza : zs[at_]? = some (zs[at_]'(by omega)) := List.getElem?_eq_getElem (by omega)
        generalize (zs[at_]'(by omega)) = z at hza
        have hset := LOut.set elB.len (hz2.below (Below.refl _ wr).drew) (i := at_) (j := 0) (y := (dat, (ya, yn, yc))) (u := .slice ya yn yc) hza (by decide) rfl
        simp only [Nat.mul_one, Nat.add_zero, Nat.zero_add] at hset
        have hla := hz2.lies elB.len hza
        have hc6 : wr.drew.cell? ⟨lb, at_, none⟩ = some (sv z.2) := by
          have := hla 0 (by simp [enB])
          simpa [enB] using this
        have hf6 : wr.drew.frozen? ⟨lb, at_, none⟩ = false := hz2.frozen at_
        have hS : wr.drew.cell? ⟨p, 0, none⟩ = some (.slice (some ⟨lb, 0, none⟩) d.L.length lc) ∧ wr.drew.cell? ⟨p, 1, none⟩ = some (.slice (some ⟨gq, go, none⟩) d.Q.length qc) ∧ wr.drew.cell? ⟨gq, go + k * 2, none⟩ = some (.int .i64 (at_ : Nat)) ∧ wr.drew.cell? ⟨gq, go + k * 2 + 1, none⟩ = some (.slice ya yn yc) := ⟨c0, c1, r0, r1⟩
        have hm' : Mod (fun b => b = lb) w2 (wr.drew.setCell ⟨lb, at_, none⟩ (.slice ya yn yc)) := hm.drew.setCell _ _ fun _ => rfl
        have hda : (at_ : Int) < (d.L.length : Int) := by omega
        have HM' := Lib.hid hm'
        have HSET := Lib.hid hset
        have HZ1 := Lib.hid hz1
        have HZ3 := Lib.hid hz3
        have HT2 := Lib.hid hlt2
        have HDY := Lib.hid hdy
        clear hm' hset hz1 hz2 hz3 hlt2 hdy c0 g1 r0 r1 hla hza hlq hqy hy h1r hcq
        go_upto_region 6 with fail
        refine wp_region_x (fun w' => w'.cell? ⟨p, 0, none⟩ = some (.slice (some ⟨lb, 0, none⟩) d.L.length lc) ∧ w'.cell? ⟨p, 1, none⟩ = some (.slice (some ⟨gq, go, none⟩) d.Q.length qc) ∧ w'.cell? ⟨gq, go + k * 2, none⟩ = some (.int .i64 (at_ : Nat)) ∧ w'.cell? ⟨gq, go + k * 2 + 1, none⟩ = some (.slice ya yn yc)) [(0, 1), (1, 1), (2, 1), (3, 0), (4, 1), (5, 1), (6, 1), (7, 0), (8, 1), (9, 1), (10, 1), (11, 0), (12, 1), (13, 1), (14, 1), (15, 0), (16, 1), (17, 1), (18, 1), (19, 0), (20, 1), (21, 3)] (by kernel_rfl) (by kernel_rfl) (by intro d v c a w h; cases d <;> exact h) ?_
        iterate 3 (refine x_take rfl (fun K hK => ?_); go_simp; refine hK _ ?_; clear hK K)
        refine x_read rfl hS (fun w' h => exec_load1 ⟨⟨_, Tryz.underlying50, rfl⟩⟩ rfl h.1) ?_
        iterate 3 (refine x_take rfl (fun K hK => ?_); go_simp; refine hK _ ?_; clear hK K)
        refine x_read rfl hS (fun w' h => exec_load1 ⟨⟨_, Tryz.underlying68, rfl⟩⟩ rfl h.2.1) ?_
        iterate 3 (refine x_take rfl (fun K hK => ?_); go_simp; refine hK _ ?_; clear hK K)
        refine x_read rfl hS (fun w' h => exec_load1 ⟨⟨_, Tryz.underlying3, rfl⟩⟩ rfl h.2.2.1) ?_
        iterate 3 (refine x_take rfl (fun K hK => ?_); go_simp; refine hK _ ?_; clear hK K)
        refine x_read rfl hS (fun w' h => exec_load1 ⟨⟨_, Tryz.underlying68, rfl⟩⟩ rfl h.2.1) ?_
        iterate 3 (refine x_take rfl (fun K hK => ?_); go_simp; refine hK _ ?_; clear hK K)
        refine x_read rfl hS (fun w' h => exec_load1 ⟨⟨_, Tryz.underlying53, rfl⟩⟩ rfl h.2.2.2) ?_
        iterate 1 (refine x_take rfl (fun K hK => ?_); go_simp; refine hK _ ?_; clear hK K)
        refine x_skip rfl (exec_store1 (v := .slice ya yn yc) ⟨⟨_, Tryz.underlying53, rfl⟩⟩ (by kernel_rfl) rfl rfl rfl hc6 hf6) ?_
        refine x_nil ?_
        clear hS hc6 hf6 c1
        go_wp2
        go_roundw
        case rel =>
          refine ⟨k + 1, by omega, by go_num, ⟨_, ?_, HSET.out, fun x hx => ?_⟩, HM'.out⟩
          · rw [HT2.out, ← HZ1.out, List.map_set]
          · rcases List.mem_or_eq_of_mem_set hx with hx | rfl
            · exact HZ3.out x hx
            · exact HDY.out
        case measure => simp [intOf]; omega
      · obtain rfl : k = d.Q.length := by omega
        rw [List.take_length] at hz1
        have hh := heap_setCell_at (o := 1) (v := .slice none 0 0) h1r
        have hm5 : Mod (fun b => b = p) wr (wr.setCell ⟨p, 1, none⟩ (.slice none 0 0)) := (Mod.refl _ _).setCell _ _ fun _ => rfl
        have HHH := Lib.hid hh
        have HM5 := Lib.hid hm5
        have HZ1 := Lib.hid hz1
        have HZ2 := Lib.hid hz2
        have HZ3 := Lib.hid hz3
        have HMM := Lib.hid hm
        clear hh hm5 hz1 hz2 hz3 hm h1r c0
        go_wp2
        go_ret
        generalize wr.setCell ⟨p, 1, none⟩ (.slice none 0 0) = w5 at *
        have hm25 : Mod F w2 w5 := HMM.out.trans HM5.out (fun x hx => by rw [hx]; exact (H8.out lb rfl).2.1) fun x _ hx => by rw [hx]; exact HFP.out
        refine ⟨rfl, ⟨HOK.out, ⟨.slice (some ⟨lb, 0, none⟩) d.L.length lc, .slice none 0 0, zs, [], ?_, ?_, ?_, ?_, ?_, ?_, ?_, ?_, ?_⟩, HFP.out, HFS.out, fun b hb => Nat.lt_of_lt_of_le (HD.out.lt b hb) hm25.size, ?_⟩, HM.out.trans hm25 (fun x hx => by rw [hx]; exact HFP.out) fun _ _ h => h⟩
        · rw [HWR.out]
          exact HHH.out
        · rw [HWR.out]
          exact HZ1.out
        · exact HZ2.out.kept HM5.out.size fun k hk => HM5.out.block k (HZ2.out.lt hk) (H8.out k hk).1
        · exact fun x hx => (HZ3.out x hx).turn hm25 HFS.out fun _ h => .inl h
        · rw [HWR.out]
          rfl
        · exact LOut.nil (Nat.zero_le _)
        · exact fun x hx => by cases hx
        · exact fun k hk => ⟨(H8.out k hk).1, (H8.out k hk).2.1, fun e => by cases e⟩
        · exact fun k hk => by cases hk
        · rw [HWR.out]
          exact HD.out.fuse
end Go.Proofs.YtmakpbjknklpiaaGreat
