/- The document's numbers and sum: number, Value, Add; walked. -/
import Derived.Test.YtmakpbjknklpiaaGreatMgRpl26
import Derived.Test.YtmakpbjknklpiaaGreatMgRpl24
import Derived.Test.YtmakpbjknklpiaaGreatMgRpl17
import Derived.Test.YtmakpbjknklpiaaGreatMgRpl18
import Derived.Test.YtmakpbjknklpiaaGreatMgRpl20
/- The document's disk: New, Crash, walked. -/
namespace Go.Proofs.YtmakpbjknklpiaaGreat
open Go.RowKit Go.Tn Go.Tn.Bt Go.Tn.Lp Go.Tn.Dk
/-- 'append(s, xs...)' as a step. -/
theorem exec_appendMX {α : Type} {en : α → List Value} {k : Nat} {e t ty : TypeId} {P : Program} (E : ElT P t e k en) {B : Nat} {w : World} {v u : Value} {xs ys : List α} (h : LOut en k e B w v xs) (hu : LSl en k w u ys) (hsz : xs.length + ys.length ≤ 10000000000) :
    ∃ v' w', (∀ (ρ : Operand → Value) (dst : Option Tmp) (pos : String) (after : Array Edge) (g : Option (Nat × Bool)) (s y : Operand), ρ s = v → ρ y = u →
      (execOp ρ ⟨dst, .call { callee := .builtin .append, args := #[s, y], argTypes := #[t, t] }, ty, pos, after, g⟩).run P w = .ok (.value v') w') ∧
      LOut en k e B w' v' (xs ++ ys) ∧ Mod (fun b => v.ownBlock = some b) w w' ∧ (v'.ownBlock = v.ownBlock ∨ v'.ownBlock = some w.heap.size) := by
  obtain ⟨v', w', hr, ho, hg, hb⟩ := run_appendMX E (ty := ty) h hu hsz
  refine ⟨v', w', fun ρ dst pos after g s y hs hy => ?_, ho, (Mod.refl _ w).grown hg fun k hk _ => hk, hb⟩
  simp only [execOp, resolve, invoke, builtin, Sem.run_bind, Sem.run_pure, Result.andThen_ok, List.map_toArray, List.map_cons, List.map_nil, hs, hy, hr]
theorem zero8r : (Tryz.prog.info? 5).map (fun i => i.zero.map (·.cells)) = some (some #[.int .u8 0]) := by kernel_rfl
set_option maxRecDepth 20000 in
set_option maxHeartbeats 4000000 in
theorem xnew_any (w : World) (n : Nat) (h1 : 1 ≤ n) (h2 : n ≤ 4096) : Calls Tryz.prog 7 #[.int .i64 n] w
    fun e w' => ∃ p S, e = .returned (.tuple #[.pointer (some ⟨p, 0, none⟩), .int .i64 0]) ∧ (∀ S0 : Nat → Prop, (∀ b, S0 b → b < w.heap.size) → RDk w' (fun b => S b ∨ S0 b) S p (newD n)) ∧ Below w.heap.size w w' ∧ ∀ b, S b → w.heap.size ≤ b := by
  have hd1 : decide ((n : Int) < 1) = false := by simp; omega
  have hd2 : decide ((4096 : Int) < n) = false := by simp; omega
  have hn63 : (n : Int) ≤ 4096 := by omega
  obtain ⟨p, hp⟩ : ∃ p, w.heap.size = p := ⟨_, rfl⟩
  rw [hp]
  have hk1 : w.heap.size ≤ p := by omega
  have HP := Lib.hid hp
  have hb0 : ∀ o, Below p w (w.alloc o) := fun o => (Below.refl _ _).alloc (by omega) _
  have HB0 := Lib.hid hb0
  have hh0 : (w.alloc (.cells #[.slice none 0 0, .slice none 0 0, .int .i64 (-1), .bool false] 70)).heap[p]? = some (.cells #[.slice none 0 0, .slice none 0 0, .int .i64 (-1), .bool false] 70 (0, 0)) := by
    rw [← hp]
    exact heap_alloc_at
  have hz0 : (w.alloc (.cells #[.slice none 0 0, .slice none 0 0, .int .i64 (-1), .bool false] 70)).heap.size = p + 1 := by simp [hp]
  have HH0 := Lib.hid hh0
  have HZ0 := Lib.hid hz0
  clear hb0 hh0 hz0 hk1
  go_enter Tryz.func7, Tryz.ntmps7
  go_upto_region 4 with fail
  have HB1 := Lib.hid (HB0.out (.cells #[.slice none 0 0, .slice none 0 0, .int .i64 (-1), .bool false] 70))
  clear HB0
  generalize w.alloc (.cells #[.slice none 0 0, .slice none 0 0, .int .i64 (-1), .bool false] 70) = w1 at *
  go_wp2_with fail
  go_loopw [5, 6] (fun iv _ wi => ∃ k : Nat, k ≤ n ∧ iv = .int .i64 k ∧ ∃ (a : Option Addr) (m c : Nat) (xs : List (List Nat × Sv)), wi.heap[p]? = some (.cells #[.slice a m c, .slice none 0 0, .int .i64 (-1), .bool false] 70 (0, 0)) ∧ xs.map (·.1) = List.replicate k zeroS ∧ LOut enB 1 53 (p + 1) wi (.slice a m c) xs ∧ BlG (p + 1) wi (.slice a m c) xs ∧ Below p w wi) (fun iv _ _ => n - (intOf iv).toNat)
  case atStart => exact ⟨0, Nat.zero_le _, rfl, none, 0, 0, [], HH0.out, rfl, LOut.nil (by have := HZ0.out; omega), (fun x hx => by cases hx), HB1.out⟩
  case round =>
    obtain ⟨k, hk, rfl, a, m, c, xs, hh, hxs, hO, hG, hb⟩ := hrel
    have c0 := cell_of (o := 0) hh rfl
    by_cases hlt : k < n
    · have hdk : decide (k < n) = true := by simp [hlt]
      have hxl : xs.length ≤ 1000000000 := by
        have := congrArg List.length hxs
        simp at this
        omega
      obtain ⟨w2, hmk, hO2, hb2, hz2⟩ := exec_makeA (P := Tryz.prog) el8 0 zero8r 128 (by decide) wr
      have HMK := Lib.hid hmk
      have HO2 := Lib.hid hO2
      have HB2 := Lib.hid hb2
      have HH := Lib.hid hh
      have HXS := Lib.hid hxs
      have HO := Lib.hid hO
      have HG := Lib.hid hG
      have HB := Lib.hid hb
      have hpo : ¬ (Value.slice a m c).ownBlock = some p := fun e => by have := hO.lo p e; omega
      have HPO := Lib.hid hpo
      have hpr : p < wr.heap.size := lt_of_block hh
      clear hmk hO2 hb2 hz2 hh hxs hO hG hb hpo
      go_wp2_with (first
        | ((with_reducible refine wpList_exec rfl (HMK.out _ _ _ _ _ _ _ _ ?_ ?_) ?_); rfl; rfl; go_frame)
        | ((with_reducible refine wpList_append1Y elB (HO.out.below HB2.out) (zeroS, (some ⟨wr.heap.size, 0, none⟩, 128, 128)) hxl ?_ ?_ ?_ ?_); rfl; rfl; rfl; (intro v4 w4 hO4 hm4 hv4; obtain ⟨a4, n4, c4, rfl⟩ := LOut.shape hO4; have HH4 := Lib.hid (hm4.heap ((HB2.out.block p hpr).trans HH.out) HPO.out); have d1 := cell_of (o := 0) HH4.out rfl; have g1 := free_of (o := 0) HH4.out; have HO4 := Lib.hid hO4; have HM4 := Lib.hid hm4; have HV4 := Lib.hid hv4; clear hO4 hm4 hv4); go_frame)
        | fail)
      have hh5 := heap_setCell_at (o := 0) (v := .slice a4 n4 c4) HH4.out
      have hm5 : Mod (fun b => b = p) w4 (w4.setCell ⟨p, 0, none⟩ (.slice a4 n4 c4)) := (Mod.refl _ _).setCell _ _ fun _ => rfl
      have HH5 := Lib.hid hh5
      have HM5 := Lib.hid hm5
      clear hh5 hm5
      go_roundw
      case rel =>
        have s2 := HB2.out.size
        have hlow := HO.out.lo
        have hxs' := HXS.out
        refine ⟨k + 1, by omega, by go_num, a4, n4, c4, xs ++ [(zeroS, (some ⟨wr.heap.size, 0, none⟩, 128, 128))], HH5.out, ?_, HO4.out.kept HM5.out.size fun r hr => HM5.out.block r (HO4.out.lt hr) fun e => by have := HO4.out.lo r hr; omega, ?_, ?_⟩
        · rw [List.map_append, hxs', List.replicate_succ']
          rfl
        · have hg := BlG.push (HG.out.below HB2.out) (HO.out.below HB2.out) (x := (zeroS, (some ⟨wr.heap.size, 0, none⟩, 128, 128))) (HO2.out.sl el8.len) (fun r hr => ⟨?_, HO2.out.lt hr, fun e => ?_⟩) HM4.out HV4.out
          · exact fun x hx => ⟨(hg x hx).1.mod HM5.out fun r hr e => by have := ((hg x hx).2 r hr).1; omega, fun r hr => ⟨((hg x hx).2 r hr).1, Nat.lt_of_lt_of_le ((hg x hx).2 r hr).2.1 HM5.out.size, ((hg x hx).2 r hr).2.2⟩⟩
          · cases hr
            show p + 1 ≤ wr.heap.size
            omega
          · cases hr
            exact absurd (HO.out.lt e) (Nat.lt_irrefl _)
        · refine (HB.out.trans (HB2.out.mono (by omega))).trans ((HM4.out.trans (T := fun b => p ≤ b) HM5.out (fun x hx => ?_) fun x _ hx => ?_).below (by omega) fun x hx h => ?_)
          · have := hlow x hx
            omega
          · rw [hx]
            exact Nat.le_refl _
          · omega
      case measure => simp [intOf]; omega
    · obtain rfl : k = n := by omega
      have hdk : decide (k < k) = false := by simp
      have HH := Lib.hid hh
      have HXS := Lib.hid hxs
      have HO := Lib.hid hO
      have HG := Lib.hid hG
      have HB := Lib.hid hb
      clear hh hxs hO hG hb c0
      go_wp2
      go_ret2
      have hlow := HO.out.lo
      refine ⟨p, fun b => b = p ∨ (Value.slice a m c).ownBlock = some b, rfl, fun S0 hS0 => ⟨newD_ok h1 h2, ⟨.slice a m c, .slice none 0 0, xs, [], HH.out, HXS.out, HO.out.mono (Nat.zero_le _), ?_, rfl, LOut.nil (Nat.zero_le _), (fun x hx => by cases hx), ?_, fun k hk => by cases hk⟩, .inl rfl, fun _ h => .inl h, ?_, fun e => by cases e⟩, HB.out, ?_⟩
      · intro x hx
        refine ⟨(HG.out x hx).1, fun r hr => ⟨fun e => ?_, ((HG.out x hx).2 r hr).2.1⟩⟩
        rcases e with (e | e) | e
        · have := ((HG.out x hx).2 r hr).1
          omega
        · exact ((HG.out x hx).2 r hr).2.2 e
        · have := ((HG.out x hx).2 r hr).1
          have := hS0 r e
          omega
      · intro j hj
        have := hlow j hj
        exact ⟨by omega, .inr hj, fun e => by cases e⟩
      · rintro b ((rfl | hb) | hb)
        · exact lt_of_block HH.out
        · exact HO.out.lt hb
        · exact Nat.lt_of_lt_of_le (hS0 b hb) (Nat.le_of_lt (lt_of_block HH.out))
      · rintro b (rfl | hb)
        · exact Nat.le_refl _
        · have := hlow b hb
          omega
set_option maxRecDepth 20000 in
set_option maxHeartbeats 4000000 in
theorem xcrash_any {w : World} {S F : Nat → Prop} {p : Nat} {d : Dsk} (h : RDk w S F p d) (v : Value) (ks : List Int) (hv : LSl enI 1 w v ks) (hvF : 0 < ks.length → ∀ r, v.ownBlock = some r → ¬ F r) (torn : Int) :
    Calls Tryz.prog 20 #[.pointer (some ⟨p, 0, none⟩), v, .int .i64 torn] w fun e w' => e = .returned (.tuple #[]) ∧ RDk w' S F p (d.crash ks torn) ∧ Mod F w w' := by
  have HOK := Lib.hid (h.ok.crash ks torn)
  have HQQ := Lib.hid h.ok.que
  have HSEC := Lib.hid h.ok.sec
  have HFS := Lib.hid h.fs
  have HFP := Lib.hid h.fp
  have HLT := Lib.hid h.lt
  have hhi := h.ok.hi
  have hsm := h.ok.small
  have hlo := h.ok.lo
  obtain ⟨lv, qv, xs, qs, h1, h2, h3, h4, h5, h6, h7, h8, h9⟩ := h.ex
  have hxl : xs.length = d.L.length := by rw [← h2]; simp
  have hql : qs.length = d.Q.length := by rw [← h5]; simp
  obtain ⟨x0, hx0⟩ : ∃ x, xs[0]? = some x := ⟨_, List.getElem?_eq_getElem (by omega)⟩
  obtain ⟨lb, lo, lc, rfl, -, -⟩ := (h3.sl elB.len).at_ hx0
  obtain ⟨rfl, -⟩ := h3.whole
  rw [hxl] at h1 h3 h8
  obtain ⟨qa, qc, rfl, hq1, hq2, hq3⟩ := h6.sl elW.len
  rw [hql] at h1 h6 h8 h9 hq1 hq3
  unfold maxLen at hq2
  have hlp := (h8 lb rfl).1
  have hql' := (h8 lb rfl).2.2
  have hvb : 0 < ks.length → ∀ r, v.ownBlock = some r → ¬ r = lb := fun h0 r hr e => hvF h0 r hr (e ▸ (h8 lb rfl).2.1)
  obtain ⟨va, vc, rfl, v1, v2, v3⟩ := id hv
  unfold maxLen at v2
  have H1 := Lib.hid h1
  have H2 := Lib.hid h2
  have H3 := Lib.hid h3
  have H4 := Lib.hid h4
  have H5 := Lib.hid h5
  have H7 := Lib.hid h7
  have H8 := Lib.hid h8
  have H9 := Lib.hid h9
  have HQ3 := Lib.hid hq3
  have HQL := Lib.hid hql
  have HV := Lib.hid hv
  have HVB := Lib.hid hvb
  have hQ63 : (d.Q.length : Int) ≤ 1000000000 := by omega
  have hL63 : (d.L.length : Int) ≤ 4096 := by omega
  have hks63 : (ks.length : Int) ≤ 9223372036854775807 := by omega
  have HLQ := Lib.hid hql'
  have HLP := Lib.hid hlp
  clear h h1 h2 h3 h4 h5 h6 h7 h8 h9 hq3 hx0 hxl hql hql' hlp hv hvb hvF v3
  go_enter Tryz.func20, Tryz.ntmps20
  go_wp2_with fail
  go_loopw [6, 7, 8, 9] (fun iv _ _ _ wi => ∃ k : Nat, k ≤ d.Q.length ∧ iv = .int .i64 k ∧ (∃ zs : List (List Nat × Sv), zs.map (·.1) = crashL d.Q.length ks torn 0 (d.Q.take k) d.L ∧ LOut enB 1 53 0 wi (.slice (some ⟨lb, 0, none⟩) d.L.length lc) zs ∧ ∀ x ∈ zs, Dat wi S x.2 x.1) ∧ Mod (fun b => b = lb) w wi) (fun iv _ _ _ _ => d.Q.length - (intOf iv).toNat)
  case atStart => exact ⟨0, Nat.zero_le _, rfl, ⟨xs, H2.out, H3.out, H4.out⟩, Mod.refl _ _⟩
  case round =>
    obtain ⟨k, hk, rfl, ⟨zs, hz1, hz2, hz3⟩, hm⟩ := hrel
    have h1r := hm.heap H1.out fun e => HLP.out e.symm
    have c1 := cell_of (o := 1) h1r rfl
    by_cases hkl : k < d.Q.length
    · have hkl' : (k : Int) < (d.Q.length : Int) := by omega
      obtain ⟨y, hy⟩ : ∃ y, qs[k]? = some y := ⟨_, List.getElem?_eq_getElem (by rw [HQL.out]; exact hkl)⟩
      have hqy : d.Q[k]? = some y.1 := by rw [← H5.out, List.getElem?_map, hy]; rfl
      have hdy := H7.out y (List.mem_of_getElem? hy)
      have hqi := (HQQ.out _ (List.mem_of_getElem? hqy)).1
      have hqs := (HQQ.out _ (List.mem_of_getElem? hqy)).2
      obtain ⟨gq, go, rfl, hgl, hcq⟩ := HQ3.out (by omega)
      have hgr : ¬ gq = lb := fun e => HLQ.out (by rw [e]; rfl)
      have hlq := lies_mod (S := fun b => b = lb) (hcq k _ hy) hm hgr
      have hlt2 := crashL_take d.Q.length ks torn d.Q d.L k _ hqy
      obtain ⟨⟨at_, dat⟩, ⟨ya, yn, yc⟩⟩ := y
      simp only at hqi hqs
      have r0 : wr.cell? ⟨gq, go + k * 2, none⟩ = some (.int .i64 (at_ : Nat)) := hlq 0 (by simp [enW])
      have r1 : wr.cell? ⟨gq, go + k * 2 + 1, none⟩ = some (.slice ya yn yc) := hlq 1 (by simp [enW, sv])
      have hvr : LSl enI 1 wr (.slice va ks.length vc) ks := LSl.modE HV.out hm HVB.out
      have hle := keptN_le d.Q.length k ks torn
      have hk1 : ((k : Nat) : Int) + 1 ≤ 1000000000 := by omega
      obtain ⟨m, hm0⟩ : ∃ m, keptN d.Q.length k ks torn = m := ⟨_, rfl⟩
      have HMM := Lib.hid hm0
      have HT2 := Lib.hid hlt2
      have HDY := Lib.hid hdy
      have HQS := Lib.hid hqs
      have HZ1 := Lib.hid hz1
      have HZ2 := Lib.hid hz2
      have HZ3 := Lib.hid hz3
      have HM := Lib.hid hm
      have H1R := Lib.hid h1r
      have HQI := Lib.hid hqi
      have R0 := Lib.hid r0
      have R1 := Lib.hid r1
      have hm128 : m ≤ 128 := by omega
      rw [hm0] at hlt2
      clear hlq hlt2 hdy hqs hqy hy hcq hz1 hz2 hz3 hm h1r r0 r1 hm0 hle
      obtain ⟨b1, hb1⟩ : ∃ b1, decide (k < ks.length ∧ ks.getD k 0 ≠ 0) = b1 := ⟨_, rfl⟩
      have HB1 := Lib.hid hb1
      clear hb1
      go_upto_region 4 with fail
      go_cut [29] (fun s wx => s = .bool b1 ∧ wx = wr)
      case first =>
        by_cases hB : k < ks.length
        · obtain ⟨z, hz⟩ : ∃ z, ks[k]? = some z := ⟨_, List.getElem?_eq_getElem hB⟩
          obtain ⟨ao, cap, hvv, -, -, v3⟩ := hvr
          obtain ⟨rfl, -, rfl⟩ : va = ao ∧ ks.length = ks.length ∧ vc = cap := by simpa using hvv
          obtain ⟨b, o, rfl, -, hc⟩ := v3 (by omega)
          have hc0 : wr.cell? ⟨b, o + k, none⟩ = some (.int .i64 z) := by simpa using hc k z hz 0 (by simp [enI])
          have hgd : ks.getD k 0 = z := by rw [List.getD_eq_getElem?_getD, hz]; rfl
          have e5' : decide (k < ks.length) = true := by simp [hB]
          have e6 : (k : Int) < (ks.length : Int) := by omega
          by_cases hz0 : z = 0
          · have hb : b1 = false := by rw [← HB1.out, hgd, hz0]; simp
            subst hz0
            subst hb
            clear hc hgd hz hvv v3
            go_wp2
            go_meet
            case rel => exact ⟨rfl, rfl⟩
          · have hb : b1 = true := by rw [← HB1.out, hgd]; simp [hB, hz0]
            have e7 : (z != 0) = true := by rw [bne_iff_ne]; exact hz0
            subst hb
            clear hc hgd hz hvv v3
            go_wp2
            go_meet
            case rel => exact ⟨rfl, rfl⟩
        · have hb : b1 = false := by rw [← HB1.out]; simp [hB]
          have e5' : decide (k < ks.length) = false := by simp [hB]
          subst hb
          go_wp2
          go_meet
          case rel => exact ⟨rfl, rfl⟩
      case rest =>
      obtain ⟨rfl, hw⟩ := hcut
      obtain rfl := hw.symm
      clear hw
      obtain ⟨m0, hm0⟩ : ∃ m0 : Nat, (if b1 = true then 128 else 0) = m0 := ⟨_, rfl⟩
      have HM0 := Lib.hid hm0
      clear hm0 hvr
      go_upto_if 29 with fail
      go_cut [7] (fun s wx => s = .int .i64 (m0 : Nat) ∧ wx = wr)
      case first =>
        cases b1 with
        | true =>
          go_wp2
          go_meet
          case rel => exact ⟨by rw [← HM0.out]; rfl, rfl⟩
        | false =>
          go_wp2
          go_meet
          case rel => exact ⟨by rw [← HM0.out]; rfl, rfl⟩
      case rest =>
      obtain ⟨rfl, hw⟩ := hcut
      obtain rfl := hw.symm
      clear hw
      obtain ⟨b2, hb2⟩ : ∃ b2, decide (k + 1 = d.Q.length ∧ 0 < torn ∧ torn < 128) = b2 := ⟨_, rfl⟩
      have hmm : m = if b2 = true then torn.toNat else m0 := by
        rw [← HMM.out, ← HM0.out, ← hb2, ← HB1.out]
        unfold keptN
        simp only [decide_eq_true_eq]
      have htn : b2 = true → ((torn.toNat : Nat) : Int) = torn := fun e => by
        rw [← hb2] at e
        have := of_decide_eq_true e
        omega
      have HB2 := Lib.hid hb2
      have HMV := Lib.hid hmm
      have HTN := Lib.hid htn
      clear hb2 hmm htn
      go_upto_region 6 with fail
      go_cut [45] (fun s wx => s = .bool b2 ∧ wx = wr)
      case first =>
        by_cases h1 : k + 1 = d.Q.length
        · have e1 : ((k : Int) == (d.Q.length : Int) - 1) = true := by rw [beq_iff_eq]; omega
          by_cases h2 : 0 < torn
          · have e2 : decide (1 ≤ torn) = true := decide_eq_true (by omega)
            by_cases h3 : torn < 128
            · have hb : b2 = true := by rw [← HB2.out]; exact decide_eq_true ⟨h1, h2, h3⟩
              have e3 : decide (torn ≤ 127) = true := decide_eq_true (by omega)
              subst hb
              go_wp2
              go_meet
              case rel => exact ⟨rfl, rfl⟩
            · have hb : b2 = false := by rw [← HB2.out]; exact decide_eq_false fun e => h3 e.2.2
              have e3 : decide (torn ≤ 127) = false := decide_eq_false (by omega)
              subst hb
              go_wp2
              go_meet
              case rel => exact ⟨rfl, rfl⟩
          · have hb : b2 = false := by rw [← HB2.out]; exact decide_eq_false fun e => h2 e.2.1
            have e2 : decide (1 ≤ torn) = false := decide_eq_false (by omega)
            subst hb
            go_wp2
            go_meet
            case rel => exact ⟨rfl, rfl⟩
        · have hb : b2 = false := by rw [← HB2.out]; exact decide_eq_false fun e => h1 e.1
          have e1 : ((k : Int) == (d.Q.length : Int) - 1) = false := beq_eq_false_iff_ne.2 (by omega)
          subst hb
          go_wp2
          go_meet
          case rel => exact ⟨rfl, rfl⟩
      case rest =>
      obtain ⟨rfl, hw⟩ := hcut
      obtain rfl := hw.symm
      clear hw
      go_upto_if 45 with fail
      go_cut [7] (fun s wx => s = .int .i64 (m : Nat) ∧ wx = wr)
      case first =>
        cases b2 with
        | true =>
          go_wp2
          go_meet
          case rel =>
            have e1 := HMV.out
            have e2 := HTN.out trivial
            simp only [if_true] at e1
            exact ⟨by rw [e1, e2], rfl⟩
        | false =>
          go_wp2
          go_meet
          case rel => exact ⟨by rw [HMV.out, if_neg (by decide)], rfl⟩
      case rest =>
      obtain ⟨rfl, hw⟩ := hcut
      obtain rfl := hw.symm
      clear hw HM0 HMV HB1 HB2 HTN
      have hyy := HDY.out.rd
      obtain ⟨yo, ycap, hyv, y1, y2, -⟩ := id hyy
      obtain ⟨rfl, rfl, rfl⟩ : ya = yo ∧ yn = dat.length ∧ yc = ycap := by simpa [sv] using hyv
      rw [HQS.out.1] at y1 hyy
      unfold maxLen at y2
      have hmy : (m : Int) ≤ (yc : Int) := by omega
      have hyr : LSl en8 1 wr (.slice ya 128 yc) dat := hyy.mod HM.out fun r hr e => by
        have := (HDY.out.out r (by show (Value.slice ya dat.length yc).ownBlock = some r; rw [HQS.out.1]; exact hr)).1
        rw [e] at this
        exact this (HFS.out lb (H8.out lb rfl).2.1)
      have hyt := LSl.take (hyr.below (Below.refl _ wr).drew) (i := m) (by rw [HQS.out.1]; exact hm128)
      have hzl : zs.length = d.L.length := by
        have := congrArg List.length HZ1.out
        rw [crashL_len] at this
        simpa using this
      have hza : zs[at_]? = some (zs[at_]'(by have := HQI.out; omega)) := List.getElem?_eq_getElem (by have := HQI.out; omega)
      generalize (zs[at_]'(by have := HQI.out; omega)) = z at hza
      have hzb : (crashL d.Q.length ks torn 0 (d.Q.take k) d.L)[at_]? = some z.1 := by rw [← HZ1.out, List.getElem?_map, hza]; rfl
      have hzs := crashL_sec (n := d.Q.length) (keep := ks) (torn := torn) (N := d.L.length) (d.Q.take k) 0 d.L (fun q hq => HQQ.out q (List.mem_of_mem_take hq)) rfl HSEC.out z.1 (List.mem_of_getElem? hzb)
      have hdz := HZ3.out z (List.mem_of_getElem? hza)
      have hla := HZ2.out.lies elB.len hza
      have ht3 := HT2.out
      rw [List.getD_eq_getElem?_getD, hzb, Option.getD_some, HMM.out] at ht3
      have r2 : wr.cell? ⟨lb, at_, none⟩ = some (sv z.2) := by
        have := hla 0 (by simp [enB])
        simpa [enB] using this
      obtain ⟨zb, ⟨za, zn, zc⟩⟩ := z
      obtain ⟨zo, zcap, hzv, z1, z2, -⟩ := id hdz.rd
      obtain ⟨rfl, rfl, rfl⟩ : za = zo ∧ zn = zb.length ∧ zc = zcap := by simpa [sv] using hzv
      have hzrd := hdz.rd
      simp only [sv] at hzrd hzs ht3
      rw [hzs.1] at z1 hzrd r2
      unfold maxLen at z2
      have c0 := cell_of (o := 0) H1R.out rfl
      have hai : (at_ : Int) < (d.L.length : Int) := by have := HQI.out; omega
      have hS : wr.drew.cell? ⟨p, 0, none⟩ = some (.slice (some ⟨lb, 0, none⟩) d.L.length lc) ∧ wr.drew.cell? ⟨p, 1, none⟩ = some (.slice (some ⟨gq, go, none⟩) d.Q.length qc) ∧ wr.drew.cell? ⟨gq, go + k * 2, none⟩ = some (.int .i64 (at_ : Nat)) ∧ wr.drew.cell? ⟨lb, at_, none⟩ = some (.slice za 128 zc) := ⟨c0, c1, R0.out, r2⟩
      have hcp := rcopy_any wr.drew _ _ hyt (by rw [List.length_take, HQS.out.1]; omega)
      obtain ⟨zd, hzd⟩ : ∃ zd, (if zc = m then za else za.map (·.add (m * 1))) = zd := ⟨_, rfl⟩
      have hzdr := LSl.drop2 (ln := 128 - m) (cn := zc - m) hzrd (i := m) (by rw [hzs.1]; exact hm128) hzd rfl rfl
      have HZD := Lib.hid hzdr
      have HZDD := Lib.hid hzd
      have HZA := Lib.hid hza
      have HDZ := Lib.hid hdz
      have HT3 := Lib.hid ht3
      have HZS := Lib.hid hzs
      have HR1 : Hid (wr.drew.cell? ⟨gq, go + k * 2 + 1, none⟩ = some (.slice ya 128 yc)) := Lib.hid (by have := R1.out; rw [HQS.out.1] at this; exact this)
      have hSS := hS
      have HSS := Lib.hid hSS
      clear hyy hyv hyr hyt hzb hzs hdz hla ht3 r2 hzv hzrd hza hzdr hSS hzd hzl
      go_upto_region 8 with fail
      refine wp_region_x (fun w' => w'.cell? ⟨p, 0, none⟩ = some (.slice (some ⟨lb, 0, none⟩) d.L.length lc) ∧ w'.cell? ⟨p, 1, none⟩ = some (.slice (some ⟨gq, go, none⟩) d.Q.length qc) ∧ w'.cell? ⟨gq, go + k * 2, none⟩ = some (.int .i64 (at_ : Nat)) ∧ w'.cell? ⟨lb, at_, none⟩ = some (.slice za 128 zc)) [(0, 1), (1, 1), (2, 1), (3, 0), (4, 1), (5, 1), (6, 1), (7, 0), (8, 1), (9, 1), (10, 1), (11, 0), (12, 1), (13, 0), (14, 1)] (by kernel_rfl) (by kernel_rfl) (by intro d v c a w h; cases d <;> exact h) ?_
      iterate 3 (refine x_take rfl (fun K hK => ?_); go_simp; refine hK _ ?_; clear hK K)
      refine x_read rfl hS (fun w' h => exec_load1 ⟨⟨_, Tryz.underlying50, rfl⟩⟩ rfl h.1) ?_
      iterate 3 (refine x_take rfl (fun K hK => ?_); go_simp; refine hK _ ?_; clear hK K)
      refine x_read rfl hS (fun w' h => exec_load1 ⟨⟨_, Tryz.underlying68, rfl⟩⟩ rfl h.2.1) ?_
      iterate 3 (refine x_take rfl (fun K hK => ?_); go_simp; refine hK _ ?_; clear hK K)
      refine x_read rfl hS (fun w' h => exec_load1 ⟨⟨_, Tryz.underlying3, rfl⟩⟩ rfl h.2.2.1) ?_
      iterate 1 (refine x_take rfl (fun K hK => ?_); go_simp; refine hK _ ?_; clear hK K)
      refine x_read rfl hS (fun w' h => exec_load1 ⟨⟨_, Tryz.underlying53, rfl⟩⟩ rfl h.2.2.2) ?_
      iterate 1 (refine x_take rfl (fun K hK => ?_); go_simp; refine hK _ ?_; clear hK K)
      refine x_nil ?_
      clear hS c0
      have r1 := HR1.out
      have c1' := HSS.out.2.1
      go_upto_region 10 with (first
        | (go_at_call 45; refine hcp.mono ?_; rintro e w3 ⟨v3, rfl, hO3, hb3⟩; obtain ⟨a3, n3, c3, rfl⟩ := LOut.shape hO3; have HO3 := Lib.hid hO3; have HB3 := Lib.hid hb3; clear hO3 hb3 hcp; go_frame)
        | fail)
      clear r1 c1'
      have hlw : ∀ b, F b → b < wr.drew.heap.size := fun b hb => Nat.lt_of_lt_of_le (HLT.out b (HFS.out b hb)) HM.out.size
      have hplt := hlw p HFP.out
      have hllt := hlw lb (H8.out lb rfl).2.1
      have hglt := hlw gq (H9.out gq rfl).2
      have hS3 : w3.drew.cell? ⟨p, 0, none⟩ = some (.slice (some ⟨lb, 0, none⟩) d.L.length lc) ∧ w3.drew.cell? ⟨p, 1, none⟩ = some (.slice (some ⟨gq, go, none⟩) d.Q.length qc) ∧ w3.drew.cell? ⟨gq, go + k * 2, none⟩ = some (.int .i64 (at_ : Nat)) ∧ True :=
        ⟨(HB3.out.cell (p := ⟨p, 0, none⟩) hplt).trans HSS.out.1, (HB3.out.cell (p := ⟨p, 1, none⟩) hplt).trans HSS.out.2.1, (HB3.out.cell (p := ⟨gq, go + k * 2, none⟩) hglt).trans HSS.out.2.2.1, trivial⟩
      have hzr3 : LSl en8 1 w3.drew (.slice zd (128 - m) (zc - m)) (zb.drop m) := ((HZD.out.below (Below.refl _ wr).drew).below HB3.out).below (Below.refl _ w3).drew
      obtain ⟨v4, w4, hr, hO4, hm4d, hv4⟩ := exec_appendMX (P := Tryz.prog) el8 (ty := 53) (HO3.out.below (Below.refl _ w3).drew) hzr3 (by rw [List.length_take, List.length_drop, HQS.out.1, HZS.out.1]; omega)
      obtain ⟨a4, n4, c4, rfl⟩ := LOut.shape hO4
      have hlo3 : ∀ r, (Value.slice a3 n3 c3).ownBlock = some r → wr.drew.heap.size ≤ r ∧ r < w3.heap.size := fun r hr => ⟨HO3.out.lo r hr, HO3.out.lt hr⟩
      have hm4 : Mod (fun b => (Value.slice a3 n3 c3).ownBlock = some b) w3 w4 := ⟨hm4d.os, hm4d.tape, hm4d.output, hm4d.size, hm4d.block⟩
      have hnp : ∀ b, F b → ¬ (Value.slice a3 n3 c3).ownBlock = some b := fun b hb e => by have := (hlo3 b e).1; have := hlw b hb; omega
      have hS4 : w4.cell? ⟨p, 0, none⟩ = some (.slice (some ⟨lb, 0, none⟩) d.L.length lc) ∧ w4.cell? ⟨p, 1, none⟩ = some (.slice (some ⟨gq, go, none⟩) d.Q.length qc) ∧ w4.cell? ⟨gq, go + k * 2, none⟩ = some (.int .i64 (at_ : Nat)) ∧ True :=
        ⟨cell_mod (S := fun b => (Value.slice a3 n3 c3).ownBlock = some b) hS3.1 hm4d (hnp p HFP.out), cell_mod (S := fun b => (Value.slice a3 n3 c3).ownBlock = some b) hS3.2.1 hm4d (hnp p HFP.out), cell_mod (S := fun b => (Value.slice a3 n3 c3).ownBlock = some b) hS3.2.2.1 hm4d (hnp gq (H9.out gq rfl).2), trivial⟩
      have hz4 : LOut enB 1 53 0 w4 (.slice (some ⟨lb, 0, none⟩) d.L.length lc) zs := (HZ2.out.below (Below.refl _ wr).drew).below HB3.out |>.kept hm4.size fun r hr => hm4.block r (by cases hr; exact Nat.lt_of_lt_of_le hllt HB3.out.size) (by cases hr; exact hnp lb (H8.out lb rfl).2.1)
      have hset := LOut.set elB.len hz4 (i := at_) (j := 0) (y := (tornB m dat zb, (a4, n4, c4))) (u := .slice a4 n4 c4) HZA.out (by decide) rfl
      simp only [Nat.mul_one, Nat.add_zero, Nat.zero_add] at hset
      have hc6 : w4.cell? ⟨lb, at_, none⟩ = some (.slice za 128 zc) := by
        have := hz4.lies elB.len HZA.out 0 (by simp [enB])
        have e8 : zb.length = 128 := by
          have := HDZ.out.rd
          obtain ⟨_, _, hv, _⟩ := this
          have hS5 := HSS.out.2.2.2
          have := (HZ2.out.lies elB.len HZA.out) 0 (by simp [enB])
          simp [enB, sv] at this
          rw [show wr.drew.cell? ⟨lb, at_, none⟩ = wr.cell? ⟨lb, at_, none⟩ from rfl, this] at hS5
          simpa using hS5
        simpa [enB, sv, e8] using this
      have hf6 : w4.frozen? ⟨lb, at_, none⟩ = false := hz4.frozen at_
      have hm5 : Mod (fun b => b = lb) w4 (w4.setCell ⟨lb, at_, none⟩ (.slice a4 n4 c4)) := (Mod.refl _ _).setCell _ _ fun _ => rfl
      refine wp_region_x (fun w' => w'.cell? ⟨p, 0, none⟩ = some (.slice (some ⟨lb, 0, none⟩) d.L.length lc) ∧ w'.cell? ⟨p, 1, none⟩ = some (.slice (some ⟨gq, go, none⟩) d.Q.length qc) ∧ w'.cell? ⟨gq, go + k * 2, none⟩ = some (.int .i64 (at_ : Nat)) ∧ True) [(0, 1), (1, 1), (2, 1), (3, 0), (4, 1), (5, 1), (6, 1), (7, 0), (8, 1), (9, 1), (10, 1), (11, 0), (12, 1), (13, 1), (14, 1), (15, 1), (16, 2), (17, 1), (18, 3)] (by kernel_rfl) (by kernel_rfl) (by intro d v c a w h; cases d <;> exact h) ?_
      iterate 3 (refine x_take rfl (fun K hK => ?_); go_simp; refine hK _ ?_; clear hK K)
      refine x_read rfl hS3 (fun w' h => exec_load1 ⟨⟨_, Tryz.underlying50, rfl⟩⟩ rfl h.1) ?_
      iterate 3 (refine x_take rfl (fun K hK => ?_); go_simp; refine hK _ ?_; clear hK K)
      refine x_read rfl hS3 (fun w' h => exec_load1 ⟨⟨_, Tryz.underlying68, rfl⟩⟩ rfl h.2.1) ?_
      iterate 3 (refine x_take rfl (fun K hK => ?_); go_simp; refine hK _ ?_; clear hK K)
      refine x_read rfl hS3 (fun w' h => exec_load1 ⟨⟨_, Tryz.underlying3, rfl⟩⟩ rfl h.2.2.1) ?_
      iterate 3 (refine x_take rfl (fun K hK => ?_); go_simp; refine hK _ ?_; clear hK K)
      refine x_take rfl (fun K hK => ⟨_, fun w' => exec_sliceLo2 Tryz.underlying53 (by kernel_rfl) hm128 HZDD.out rfl rfl rfl rfl, ?_⟩)
      go_simp
      refine hK _ ?_
      clear hK K
      refine x_show rfl (hr _ _ _ _ _ _ _ rfl rfl) hS4 ?_
      iterate 1 (refine x_take rfl (fun K hK => ?_); go_simp; refine hK _ ?_; clear hK K)
      refine x_skip rfl (exec_store1 (v := .slice a4 n4 c4) ⟨⟨_, Tryz.underlying53, rfl⟩⟩ (by kernel_rfl) rfl rfl rfl hc6 hf6) ?_
      refine x_nil ?_
      have HO4 := Lib.hid hO4
      have HM4 := Lib.hid hm4
      have HM5 := Lib.hid hm5
      have HSET := Lib.hid hset
      have HV4 := Lib.hid hv4
      have HLW := Lib.hid hlw
      have HLO3 := Lib.hid hlo3
      clear hS3 hS4 hz4 hset hc6 hf6 hm5 hr hO4 hv4 hm4 hm4d hzr3 hlw hlo3 hnp c1
      go_wp2
      go_roundw
      case rel =>
        have s3 := HB3.out.size
        have s4 := HM4.out.size
        have s5 := HM5.out.size
        have hwr : wr.heap.size ≤ w3.heap.size := s3
        have hSl : ∀ b, S b → b < wr.heap.size := fun b hb => Nat.lt_of_lt_of_le (HLT.out b hb) HM.out.size
        have hx35 : Mod (fun b => b = lb) wr.drew (w4.setCell ⟨lb, at_, none⟩ (.slice a4 n4 c4)) := by
          refine (((mod0 HB3.out : Mod (fun _ => False) wr.drew w3).trans (T := fun b => b = lb ∨ wr.heap.size ≤ b) HM4.out (fun _ h => h.elim) fun x hx h => .inr (HLO3.out x h).1).trans (T := fun b => b = lb ∨ wr.heap.size ≤ b) HM5.out (fun _ h => h) fun x _ h => .inl h : Mod (fun b => b = lb ∨ wr.heap.size ≤ b) wr.drew _).mono fun x hx h => ?_
          rcases h with h | h
          · exact h
          · exact absurd hx (Nat.not_lt.2 h)
        have hm35 : Mod (fun b => b = lb) wr (w4.setCell ⟨lb, at_, none⟩ (.slice a4 n4 c4)) := ⟨hx35.os, hx35.tape, hx35.output, hx35.size, hx35.block⟩
        refine ⟨k + 1, by omega, by go_num, ⟨_, ?_, HSET.out, fun x hx => ?_⟩, HM.out.trans hm35 (fun _ h => h) fun _ _ h => h⟩
        · rw [HT3.out, ← HZ1.out, List.map_set]
        · rcases List.mem_or_eq_of_mem_set hx with hx | rfl
          · exact (HZ3.out x hx).turn hm35 (fun b hb => by rw [hb]; exact HFS.out lb (H8.out lb rfl).2.1) fun _ h => .inl h
          · have hown : ∀ r, (Value.slice a4 n4 c4).ownBlock = some r → wr.heap.size ≤ r ∧ r < w4.heap.size := fun r hr => by
              refine ⟨?_, HO4.out.lt hr⟩
              rcases HV4.out with e | e
              · rw [e] at hr
                exact (HLO3.out r hr).1
              · rw [e] at hr
                cases hr
                exact hwr
            refine ⟨(HO4.out.sl el8.len).mod HM5.out fun r hr e => ?_, fun r hr => ⟨fun e => ?_, ?_⟩⟩
            · have h1 := (hown r hr).1
              have h2 := HLW.out lb (H8.out lb rfl).2.1
              have h3 : lb < wr.heap.size := h2
              omega
            · have h1 := (hown r hr).1
              have := hSl r e
              omega
            · have := (hown r hr).2
              omega
      case measure => simp [intOf]; omega
    · obtain rfl : k = d.Q.length := by omega
      rw [List.take_length] at hz1
      have hh := heap_setCell_at (o := 3) (v := .bool false) (heap_setCell_at (o := 2) (v := .int .i64 (-1)) (heap_setCell_at (o := 1) (v := .slice none 0 0) h1r))
      have hm5 : Mod (fun b => b = p) wr (((wr.setCell ⟨p, 1, none⟩ (.slice none 0 0)).setCell ⟨p, 2, none⟩ (.int .i64 (-1))).setCell ⟨p, 3, none⟩ (.bool false)) := Mod.setCell (S := fun b => b = p) (Mod.setCell (S := fun b => b = p) (Mod.setCell (S := fun b => b = p) (Mod.refl _ _) _ _ fun _ => rfl) _ _ fun _ => rfl) _ _ fun _ => rfl
      have g1 := free_of (o := 1) h1r
      have c2 := cell_of (o := 2) h1r rfl
      have g2 := free_of (o := 2) h1r
      have c3 := cell_of (o := 3) h1r rfl
      have g3 := free_of (o := 3) h1r
      have HHH := Lib.hid hh
      have HM5 := Lib.hid hm5
      have HZ1 := Lib.hid hz1
      have HZ2 := Lib.hid hz2
      have HZ3 := Lib.hid hz3
      have HMM := Lib.hid hm
      clear hh hm5 hz1 hz2 hz3 hm h1r
      go_wp2
      (try simp only [Exit.inBlock, Exit.then]); refine bodyPost_end (results_none rfl _ _ _) rfl ?_
      generalize ((wr.setCell ⟨p, 1, none⟩ (.slice none 0 0)).setCell ⟨p, 2, none⟩ (.int .i64 (-1))).setCell ⟨p, 3, none⟩ (.bool false) = w5 at *
      have hm25 : Mod F w w5 := HMM.out.trans HM5.out (fun x hx => by rw [hx]; exact (H8.out lb rfl).2.1) fun x _ hx => by rw [hx]; exact HFP.out
      refine ⟨rfl, ⟨HOK.out, ⟨.slice (some ⟨lb, 0, none⟩) d.L.length lc, .slice none 0 0, zs, [], HHH.out, HZ1.out, ?_, ?_, rfl, LOut.nil (Nat.zero_le _), (fun x hx => by cases hx), fun k hk => ⟨(H8.out k hk).1, (H8.out k hk).2.1, fun e => by cases e⟩, fun k hk => by cases hk⟩, HFP.out, HFS.out, fun b hb => Nat.lt_of_lt_of_le (HLT.out b hb) hm25.size, fun e => by cases e⟩, hm25⟩
      · exact HZ2.out.kept HM5.out.size fun k hk => HM5.out.block k (HZ2.out.lt hk) (H8.out k hk).1
      · exact fun x hx => (HZ3.out x hx).turn HM5.out (fun b hb => by rw [hb]; exact HFS.out p HFP.out) fun _ h => .inl h
end Go.Proofs.YtmakpbjknklpiaaGreat

/- The document's numbers and sum: number, Value, Add; walked. -/
namespace Go.Tn.Lp
/-- The bytes of a number, the lowest first. -/
def lowB (x n : Nat) : List Nat := (List.range n).map fun i => x / 256 ^ i % 256
theorem lowB_succ (x n : Nat) : lowB x (n + 1) = lowB x n ++ [x / 256 ^ n % 256] := by
  unfold lowB
  rw [List.range_succ, List.map_append]
  rfl
theorem lowB_len (x n : Nat) : (lowB x n).length = n := by unfold lowB; rw [List.length_map, List.length_range]
theorem lowB_rev (x : Nat) : ∀ n, (lowB x n).reverse = bytesN x n
  | 0 => rfl
  | n + 1 => by
    rw [lowB_succ, List.reverse_append, lowB_rev x n]
    rfl
theorem drop_rev {α : Type} (l : List α) (i : Nat) (x : α) (h : l[i]? = some x) : (l.drop i).reverse = (l.drop (i + 1)).reverse ++ [x] := by
  obtain ⟨hi, rfl⟩ := List.getElem?_eq_some_iff.1 h
  rw [List.drop_eq_getElem_cons hi, List.reverse_cons]
end Go.Tn.Lp
namespace Go.Proofs.YtmakpbjknklpiaaGreat
open Go.RowKit Go.Tn Go.Tn.Bt Go.Tn.Lp Go.Tn.Dk
set_option maxRecDepth 20000 in
set_option maxHeartbeats 4000000 in
theorem ynumber_any (w : World) (x : Nat) (hx : x < 2 ^ 64) (n : Nat) (hn : n ≤ 8) : Calls Tryz.prog 90 #[.int .u64 x, .int .i64 n] w
    fun e w' => ∃ v', e = .returned v' ∧ LOut en8 1 5 w.heap.size w' v' (bytesN x n) ∧ Below w.heap.size w w' := by
  have hn63 : (n : Int) ≤ 8 := by omega
  go_enter Tryz.func90, Tryz.ntmps90
  go_wp2
  go_loopw [0, 5, 6] (fun xv ov iv wi => ∃ (k y : Nat), k ≤ n ∧ iv = .int .i64 k ∧ xv = .int .u64 (y : Nat) ∧ y = x / 256 ^ k ∧ y < 2 ^ 64 ∧ LOut en8 1 5 w.heap.size wi ov (lowB x k) ∧ Below w.heap.size w wi) (fun _ _ iv _ => n - (intOf iv).toNat)
  case atStart => exact ⟨0, x, Nat.zero_le _, rfl, rfl, by simp, hx, LOut.nil (Nat.le_refl _), Below.refl _ _⟩
  case round =>
    obtain ⟨k, y, hk, rfl, rfl, hy, hy64, hO, hb⟩ := hrel
    by_cases hlt : k < n
    · have hd1 : decide (k < n) = true := by simp [hlt]
      have hyl : (y : Int) ≤ 18446744073709551615 := by omega
      have hym : (y : Int) % 256 = ((y % 256 : Nat) : Int) := by omega
      have hyd : (y : Int) / 256 = ((y / 256 : Nat) : Int) := by omega
      have hm256 : y % 256 < 256 := Nat.mod_lt _ (by decide)
      have hn1 : y / 256 = x / 256 ^ (k + 1) := by rw [hy, Nat.div_div_eq_div_mul, Nat.pow_succ]
      have hn2 : lowB x (k + 1) = lowB x k ++ [y % 256] := by rw [lowB_succ, hy]
      have hd64 : y / 256 < 2 ^ 64 := by omega
      have hml : (lowB x k).length ≤ 1000 := by rw [lowB_len]; omega
      obtain ⟨m, hm⟩ : ∃ m, y % 256 = m := ⟨_, rfl⟩
      obtain ⟨q, hq⟩ : ∃ q, y / 256 = q := ⟨_, rfl⟩
      rw [hm] at hym hm256 hn2
      rw [hq] at hyd hn1 hd64
      have hmi : (m : Int) < 256 := by omega
      have HN1 := Lib.hid hn1
      have HN2 := Lib.hid hn2
      have HB := Lib.hid hb
      have HQ := Lib.hid hd64
      clear hn1 hn2 hb hy hm hq hd64
      obtain ⟨a3, n3, c3, rfl⟩ := LOut.shape hO
      go_wp2_with (first
        | ((with_reducible refine wpList_append1 el8 hO m hml ?_ ?_ ?_ ?_); rfl; rfl; rfl; (intro v7 w7 hO7 hb7; obtain ⟨a7, n7, c7, rfl⟩ := LOut.shape hO7; have HO7 := Lib.hid hO7; have HB7 := Lib.hid hb7; clear hO7 hb7); go_frame)
        | fail)
      go_roundw
      case rel => exact ⟨k + 1, q, by omega, by go_num, rfl, HN1.out, HQ.out, by rw [HN2.out]; exact HO7.out, HB.out.trans HB7.out⟩
      case measure => simp [intOf]; omega
    · obtain rfl : k = n := by omega
      have hd1 : decide (k < k) = false := by simp
      have HO := Lib.hid hO
      have HB := Lib.hid hb
      have hsl := hO.sl el8.len
      obtain ⟨ao, cap, rfl, h1, h2, h3⟩ := hsl
      rw [lowB_len] at h1 h3 HO ⊢
      unfold maxLen at h2
      clear hO hb hy
      obtain ⟨wo, hwo⟩ : ∃ wo, wo = wr := ⟨_, rfl⟩
      subst hwo
      go_wp2
      go_loopw [7, 8] (fun ov iv wi => ∃ (j : Nat), j ≤ k ∧ iv = .int .i64 j ∧ LOut en8 1 5 wo.heap.size wi ov ((lowB x k).drop j).reverse ∧ Below wo.heap.size wo wi) (fun _ iv _ => (intOf iv).toNat)
      case atStart => exact ⟨k, Nat.le_refl _, rfl, by rw [List.drop_of_length_le (by rw [lowB_len]; omega)]; exact LOut.nil (Nat.le_refl _), Below.refl _ _⟩
      case round =>
        obtain ⟨j, hj, rfl, hO, hb⟩ := hrel
        by_cases hj0 : 0 < j
        · obtain ⟨i, rfl⟩ : ∃ i, j = i + 1 := ⟨j - 1, by omega⟩
          have hgt : decide ((0 : Int) < ((i + 1 : Nat) : Int)) = true := decide_eq_true (by omega)
          have hsub : ((i + 1 : Nat) : Int) - 1 = (i : Int) := by omega
          have hin : (i : Int) < (k : Int) := by omega
          have hi63 : (i : Int) ≤ 8 := by omega
          obtain ⟨b, off, rfl, hbl, hcells⟩ := h3 (by omega)
          obtain ⟨c, hc⟩ : ∃ c, (lowB x k)[i]? = some c := ⟨_, List.getElem?_eq_getElem (by rw [lowB_len]; omega)⟩
          have hcell : wr.cell? ⟨b, off + i, none⟩ = some (.int .u8 (c : Nat)) := by
            have := (hcells i c hc).below' hb hbl 0 (by simp)
            simpa using this
          have hdr := drop_rev (lowB x k) i c hc
          have hml : ((lowB x k).drop (i + 1)).reverse.length ≤ 1000 := by simp [lowB_len]; omega
          have hjj : (1 : Int) ≤ ((i + 1 : Nat) : Int) ∧ ((i + 1 : Nat) : Int) ≤ 8 := by omega
          have hw1 : IntKind.i64.wrap (((i + 1 : Nat) : Int) - 1) = (i : Int) := by rw [IntWalk.i64_in _ (by omega)]; exact hsub
          have HDR := Lib.hid hdr
          have HBB := Lib.hid hb
          have HIK : Hid (i ≤ k) := Lib.hid (by omega)
          obtain ⟨a3, n3, c3, rfl⟩ := LOut.shape hO
          clear hdr hb hc hcells hj
          generalize ((i + 1 : Nat) : Int) = jv at *
          go_wp2_with (first
            | ((with_reducible refine wpList_append1 el8 hO c hml ?_ ?_ ?_ ?_); rfl; rfl; rfl; (intro v7 w7 hO7 hb7; obtain ⟨a7, n7, c7, rfl⟩ := LOut.shape hO7; have HO7 := Lib.hid hO7; have HB7 := Lib.hid hb7; clear hO7 hb7); go_frame)
            | fail)
          go_roundw
          case rel => exact ⟨i, HIK.out, by go_num, by rw [HDR.out]; exact HO7.out, HBB.out.trans HB7.out⟩
          case measure => simp [intOf]; omega
        · obtain rfl : j = 0 := by omega
          have hgt : decide ((0 : Int) < ((0 : Nat) : Int)) = false := by simp
          have hres : ((lowB x k).drop 0).reverse = bytesN x k := by rw [List.drop_zero, lowB_rev]
          rw [hres] at hO
          have HO2 := Lib.hid hO
          have HBB := Lib.hid hb
          clear hO hb hres
          go_wp2
          go_ret
          exact ⟨_, rfl, HO2.out.mono HB.out.size, HB.out.trans (HBB.out.mono HB.out.size)⟩
set_option maxRecDepth 20000 in
theorem yvalue_any (w : World) (v : Value) (bs : List Nat) (h : LSl en8 1 w v bs) (hlt : ∀ x ∈ bs, x < 256) (hl : bs.length ≤ 8) : Calls Tryz.prog 38 #[v] w
    fun e w' => e = .returned (.int .u64 (numOf bs : Nat)) ∧ w' = w := by
  obtain ⟨ao, cap, rfl, h1, h2, h3⟩ := h
  unfold maxLen at h2
  go_enter Tryz.func38, Tryz.ntmps38
  go_wp2
  go_loopw [3, 4] (fun xv jv wi => ∃ k : Nat, k ≤ bs.length ∧ jv = .int .i64 k ∧ xv = .int .u64 (numOf (bs.take k) : Nat) ∧ wi = w) (fun _ jv _ => bs.length - (intOf jv).toNat)
  case atStart => exact ⟨0, Nat.zero_le _, rfl, rfl, rfl⟩
  case round =>
    obtain ⟨k, hk, rfl, rfl, rfl⟩ := hrel
    by_cases hkl : k < bs.length
    · have hkl' : (k : Int) < (bs.length : Int) := by omega
      obtain ⟨c, hc⟩ : ∃ c, bs[k]? = some c := ⟨bs[k], List.getElem?_eq_getElem hkl⟩
      have hc8 := hlt c (List.mem_of_getElem? hc)
      have hc8' : (c : Int) < 256 := by omega
      obtain ⟨b, off, rfl, hbl, hcells⟩ := h3 (by omega)
      have hcell := hcells k c hc 0 (by simp)
      simp only [Nat.mul_one, Nat.add_zero] at hcell
      have HC : wr.cell? ⟨b, off + k, none⟩ = some (.int .u8 (c : Nat)) := hcell
      have hlen : (bs.take k).length = k := by rw [List.length_take]; omega
      have hX := numOf_lt k (bs.take k) hlen fun x hx => hlt x (List.mem_of_mem_take hx)
      have hnx : numOf (bs.take (k + 1)) = numOf (bs.take k) * 256 + c := by
        rw [List.take_add_one, hc]
        exact numOf_snoc _ _
      have h56 : 256 ^ k ≤ 256 ^ 7 := Nat.pow_le_pow_right (by decide) (by omega)
      obtain ⟨X, hXX⟩ : ∃ X, numOf (bs.take k) = X := ⟨_, rfl⟩
      rw [hXX] at hX hnx ⊢
      have hXlt : X < 72057594037927936 := Nat.lt_of_lt_of_le hX h56
      have hXi : (X : Int) < 72057594037927936 := by omega
      have HN := Lib.hid hnx
      clear hcell hcells hc hnx hXX hX h56 hlen
      go_wp2
      go_roundw
      case rel => exact ⟨k + 1, by omega, by go_num, by rw [HN.out]; rfl, trivial⟩
      case measure => simp [intOf]; omega
    · obtain rfl : k = bs.length := by omega
      rw [List.take_length]
      go_wp2
      go_ret
      exact ⟨rfl, rfl⟩
theorem flStep_any (f g c : Nat) : (flStep (f, g) c).1 = (f + c) % 65535 ∧ (flStep (f, g) c).2 = (g + (f + c)) % 65535 := by
  refine ⟨rfl, ?_⟩
  show (g + (f + c) % 65535) % 65535 = (g + (f + c)) % 65535
  omega
set_option maxRecDepth 20000 in
theorem yadd_any (w : World) (v : Value) (bs : List Nat) (h : LSl en8 1 w v bs) (hlt : ∀ x ∈ bs, x < 256) (hl : bs.length ≤ 50000) : Calls Tryz.prog 91 #[.int .u32 0, v] w
    fun e w' => e = .returned (.int .u32 (fsum bs : Nat)) ∧ w' = w := by
  obtain ⟨ao, cap, rfl, h1, h2, h3⟩ := h
  unfold maxLen at h2
  go_enter Tryz.func91, Tryz.ntmps91
  go_wp2
  go_loopw [5, 6, 7] (fun fv gv jv wi => ∃ k : Nat, k ≤ bs.length ∧ jv = .int .i64 k ∧ fv = .int .u64 (((bs.take k).foldl flStep (flOf 0)).1 : Nat) ∧ gv = .int .u64 (((bs.take k).foldl flStep (flOf 0)).2 : Nat) ∧ wi = w) (fun _ _ jv _ => bs.length - (intOf jv).toNat)
  case atStart => exact ⟨0, Nat.zero_le _, rfl, rfl, rfl, rfl⟩
  case round =>
    obtain ⟨k, hk, rfl, rfl, rfl, hw⟩ := hrel
    obtain rfl := hw.symm
    clear hw
    have hft := fold_lt (bs.take k) _ (flOf_lt 0)
    by_cases hkl : k < bs.length
    · have hkl' : (k : Int) < (bs.length : Int) := by omega
      obtain ⟨c, hc⟩ : ∃ c, bs[k]? = some c := ⟨bs[k], List.getElem?_eq_getElem hkl⟩
      have hc8 := hlt c (List.mem_of_getElem? hc)
      have hc8' : (c : Int) < 256 := by omega
      obtain ⟨b, off, rfl, hbl, hcells⟩ := h3 (by omega)
      have hcell : w.cell? ⟨b, off + k, none⟩ = some (.int .u8 (c : Nat)) := by
        have := hcells k c hc 0 (by simp)
        simpa using this
      have hnx : (bs.take (k + 1)).foldl flStep (flOf 0) = flStep ((bs.take k).foldl flStep (flOf 0)) c := by
        rw [List.take_add_one, hc]
        simp [List.foldl_append]
      obtain ⟨⟨f, g⟩, hfg⟩ : ∃ x, (bs.take k).foldl flStep (flOf 0) = x := ⟨_, rfl⟩
      rw [hfg] at hft hnx ⊢
      simp only at hft
      obtain ⟨e1, e2⟩ := flStep_any f g c
      have hf' : (f : Int) < 65535 := by omega
      have hg' : (g : Int) < 65535 := by omega
      have HNX := Lib.hid hnx
      have HE1 := Lib.hid e1
      have HE2 := Lib.hid e2
      clear hnx hfg hcells hc e1 e2
      go_wp2
      go_roundw
      case rel =>
        refine ⟨k + 1, by omega, by go_num, ?_, ?_, trivial⟩
        · rw [HNX.out, HE1.out]
          rfl
        · rw [HNX.out, HE2.out]
          rfl
      case measure => simp [intOf]; omega
    · obtain rfl : k = bs.length := by omega
      rw [List.take_length] at hft ⊢
      have hz : fsum bs = (bs.foldl flStep (flOf 0)).2 * 65536 + (bs.foldl flStep (flOf 0)).1 := rfl
      obtain ⟨⟨f, g⟩, hfg⟩ : ∃ x, bs.foldl flStep (flOf 0) = x := ⟨_, rfl⟩
      rw [hfg] at hft hz ⊢
      simp only at hft hz ⊢
      have HZ := Lib.hid hz
      clear hz hfg
      have hf' : (f : Int) < 65535 := by omega
      have hg' : (g : Int) < 65535 := by omega
      go_wp2
      go_ret
      exact ⟨by rw [HZ.out]; rfl, rfl⟩
end Go.Proofs.YtmakpbjknklpiaaGreat
