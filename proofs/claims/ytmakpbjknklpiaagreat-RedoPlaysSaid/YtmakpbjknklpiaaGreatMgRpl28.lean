/- The document's Unseal, walked. -/
import Derived.Test.YtmakpbjknklpiaaGreatMgRpl27
import Derived.Test.YtmakpbjknklpiaaGreatMgRpl24
/- The document's Seal, walked. -/
namespace Go.Tn.Lp
open Go.Tn.Bt
/-- A sealed sector, byte list by byte list. -/
def sealF (p : Pc) : List Nat := bytesN (stampN p) 8 ++ [flagsN p.fi p.la, p.da.length] ++ p.da ++ List.replicate (106 - p.da.length) 0
theorem seal3_flat (p : Pc) (h : p.da.length ≤ 106) : (seal3 p).take 116 = sealF p := by
  unfold seal3 sealF
  have hb : (bytesN (p.ep * 1099511627776 + p.ct) 8).length = 8 := bytesN_len _ _
  have e1 : writeAt (List.replicate 128 0) 0 (bytesN (p.ep * 1099511627776 + p.ct) 8) = bytesN (p.ep * 1099511627776 + p.ct) 8 ++ 0 :: 0 :: List.replicate 118 0 := by
    rw [writeAt_eq _ _ _ (by rw [hb]; simp), hb]
    rfl
  have e2 : ((bytesN (p.ep * 1099511627776 + p.ct) 8 ++ 0 :: 0 :: List.replicate 118 0).set 8 (flagsN p.fi p.la)).set 9 p.da.length = bytesN (p.ep * 1099511627776 + p.ct) 8 ++ flagsN p.fi p.la :: p.da.length :: List.replicate 118 0 := by
    rw [List.set_append_right _ _ (by rw [hb]; exact Nat.le_refl _), hb, List.set_append_right _ _ (by rw [hb]; decide), hb]
    rfl
  rw [e1, e2]
  have hl : (bytesN (p.ep * 1099511627776 + p.ct) 8 ++ flagsN p.fi p.la :: p.da.length :: List.replicate 118 0).length = 128 := by
    rw [List.length_append, hb]
    simp
  rw [writeAt_eq _ _ _ (by rw [hl]; omega)]
  have t10 : (bytesN (p.ep * 1099511627776 + p.ct) 8 ++ flagsN p.fi p.la :: p.da.length :: List.replicate 118 0).take 10 = bytesN (p.ep * 1099511627776 + p.ct) 8 ++ [flagsN p.fi p.la, p.da.length] := by
    rw [List.take_append, hb, List.take_of_length_le (by rw [hb]; decide)]
    rfl
  have d10 : (bytesN (p.ep * 1099511627776 + p.ct) 8 ++ flagsN p.fi p.la :: p.da.length :: List.replicate 118 0).drop (10 + p.da.length) = List.replicate (118 - p.da.length) 0 := by
    rw [List.drop_append, hb, List.drop_of_length_le (by rw [hb]; omega), List.nil_append, show 10 + p.da.length - 8 = p.da.length + 2 by omega, List.drop_succ_cons, List.drop_succ_cons, List.drop_replicate]
  rw [t10, d10]
  have hl2 : (bytesN (p.ep * 1099511627776 + p.ct) 8 ++ [flagsN p.fi p.la, p.da.length] ++ p.da).length = 10 + p.da.length := by
    rw [List.length_append, List.length_append, hb]
    simp
  rw [List.take_append, hl2, List.take_of_length_le (by rw [hl2]; omega), List.take_replicate, show min (116 - (10 + p.da.length)) (118 - p.da.length) = 106 - p.da.length by omega]
  rfl
theorem sealF_len (p : Pc) (h : p.da.length ≤ 106) : (sealF p).length = 116 := by
  rw [← seal3_flat p h, List.length_take, seal3_len]
  rfl
theorem seal_flat (p : Pc) (h : p.da.length ≤ 106) : sealB p = sealF p ++ bytesN (fsum (sealF p)) 4 ++ bytesN (stampN p) 8 := by
  have h3 := seal3_len p
  unfold sealB
  rw [seal3_flat p h]
  have e1 : writeAt (seal3 p) 116 (bytesN (fsum (sealF p)) 4) = sealF p ++ bytesN (fsum (sealF p)) 4 ++ (seal3 p).drop 120 := by
    rw [writeAt_eq _ _ _ (by rw [bytesN_len, h3]; decide), seal3_flat p h, bytesN_len]
  rw [e1]
  have hl : (sealF p ++ bytesN (fsum (sealF p)) 4).length = 120 := by rw [List.length_append, sealF_len p h, bytesN_len]
  rw [writeAt_eq _ _ _ (by rw [List.length_append, hl, List.length_drop, h3, bytesN_len]; decide), bytesN_len, List.take_append_of_le_length (by rw [hl]; decide), List.take_of_length_le (by rw [hl]; decide), List.drop_of_length_le (by rw [List.length_append, hl, List.length_drop, h3]; decide), List.append_nil]
  rfl
theorem sealF_lt (p : Pc) (hd : ∀ x ∈ p.da, x < 256) (h3 : p.da.length ≤ 106) : ∀ x ∈ sealF p, x < 256 := fun x hx => by
  rw [← seal3_flat p h3] at hx
  exact seal3_lt p hd h3 x (List.mem_of_mem_take hx)
end Go.Tn.Lp
namespace Go.Proofs.YtmakpbjknklpiaaGreat
open Go.RowKit Go.Tn Go.Tn.Bt Go.Tn.Lp Go.Tn.Dk
/-- Bytes that lie in a block of their own. -/
theorem lsl_block {w : World} {b : Nat} {L : List Nat} {T : TypeId} {fr : Nat × Nat} (h : w.heap[b]? = some (.cells (cells8 L) T fr)) (hl : L.length ≤ 1000) : LSl en8 1 w (.slice (some ⟨b, 0, none⟩) L.length L.length) L := by
  refine ⟨_, _, rfl, Nat.le_refl _, by unfold maxLen; omega, fun _ => ⟨b, 0, rfl, lt_of_block h, fun i x hi j hj => ?_⟩⟩
  have hj0 : j = 0 := by simp at hj; omega
  subst hj0
  refine cell_of h ?_
  have hil := (List.getElem?_eq_some_iff.1 hi).1
  rw [show 0 + i * 1 + 0 = i by omega]
  simp [cells8, hi]
section
variable {P : Program} {ops : Array Oper} {Q : Exit → Act → World → Prop} {S : World → Prop}
theorem t_show {i : Nat} {r : Tr} {a : Act} {w : World} {o : Oper} (ho : ops[i]? = some o) {v : Value} {w' : World} (hr : (execOp a.eval o).run P w = .ok (.value v) w') (hS : S w') (h : wpT P ops Q S r (a.put o.dst v) w') : wpT P ops Q S (.one i 2 r) a w := by
  refine ⟨o, ho, ?_⟩
  simp only [Oper.wp, hr, Oper.upon]
  exact ⟨hS, h⟩
theorem oper_run {o : Oper} {a : Act} {w w' : World} {v : Value} {K : Act → World → Prop} (hr : (execOp a.eval o).run P w = .ok (.value v) w') (h : K (a.put o.dst v) w') : o.wp P a w K Q := by
  simp only [Oper.wp, hr, Oper.upon]
  exact h
end
theorem exec_build2 {ρ : Operand → Value} {dst : Option Tmp} {ty : TypeId} {pos : String} {after : Array Edge} {g : Option (Nat × Bool)} {x y : Operand} {w : World} {a b : Int} (hx : ρ x = .int .u8 a) (hy : ρ y = .int .u8 b) :
    (execOp ρ ⟨dst, .buildSlice 53 2 #[(0, x), (1, y)], ty, pos, after, g⟩).run Tryz.prog w = .ok (.value (.slice (some ⟨w.heap.size, 0, none⟩) 2 2)) (w.alloc (.cells #[.int .u8 a, .int .u8 b] 5)) := by
  obtain ⟨i0, hi, hz0, hz1, hz2⟩ := info_parts info8
  refine exec_buildSlice (vals := #[(0, .int .u8 a), (1, .int .u8 b)]) (by simp [hx, hy]) (run_buildSlice w 53 5 2 _ _ i0 _ Tryz.underlying53 hi hz0 (by rw [hz1]; decide) (by rw [hz1]; decide) ?_)
  rw [hz1]
  kernel_rfl
set_option maxRecDepth 20000 in
set_option maxHeartbeats 4000000 in
theorem yseal_any (w : World) (ep ct : Nat) (fi la : Bool) (da : List Nat) (v : Value) (hv : LSl en8 1 w v da) (hlt : ∀ x ∈ da, x < 256) (h1 : ep ≤ 16777215) (h2 : ct ≤ 1099511627775) (h3 : da.length ≤ 106) :
    Calls Tryz.prog 59 #[.agg #[.int .u64 ep, .int .u64 ct, .bool fi, .bool la, v]] w
    fun e w' => ∃ v', e = .returned (.tuple #[v', .int .i64 0]) ∧ LOut en8 1 5 w.heap.size w' v' (sealB ⟨ep, ct, fi, la, da⟩) ∧ Below w.heap.size w w' := by
  have hs64 : ep * 1099511627776 + ct < 2 ^ 64 := by omega
  have hv0 := hv
  obtain ⟨ao, cap, rfl, hc1, hc2, hc3⟩ := hv
  unfold maxLen at hc2
  have h1' : (ep : Int) ≤ 16777215 := by omega
  have h2' : (ct : Int) ≤ 1099511627775 := by omega
  have h3' : (da.length : Int) ≤ 106 := by omega
  have e1 : decide ((16777215 : Int) < (ep : Int)) = false := decide_eq_false (by omega)
  have e2 : decide ((1099511627775 : Int) < (ct : Int)) = false := decide_eq_false (by omega)
  have e3 : decide ((106 : Int) < (da.length : Int)) = false := decide_eq_false (by omega)
  have hb1 : Below w.heap.size w (w.alloc (.cells #[.int .u64 ep, .int .u64 ct, .bool fi, .bool la, .slice ao da.length cap] 93)) := (Below.refl _ _).alloc (Nat.le_refl _) _
  have hH : (w.alloc (.cells #[.int .u64 ep, .int .u64 ct, .bool fi, .bool la, .slice ao da.length cap] 93)).heap[w.heap.size]? = some (.cells #[.int .u64 ep, .int .u64 ct, .bool fi, .bool la, .slice ao da.length cap] 93 (0, 0)) := heap_alloc_at
  have hv1 := hv0.below hb1
  have hst : stampN ⟨ep, ct, fi, la, da⟩ = ep * 1099511627776 + ct := rfl
  obtain ⟨s0, hs⟩ : ∃ s0, ep * 1099511627776 + ct = s0 := ⟨_, rfl⟩
  rw [hs] at hs64 hst
  have hnum : ∀ W, Calls Tryz.prog 90 #[.int .u64 ((ep : Int) * 1099511627776 + (ct : Int)), .int .i64 8] W fun e w' => ∃ v', e = .returned v' ∧ LOut en8 1 5 W.heap.size w' v' (bytesN s0 8) ∧ Below W.heap.size W w' := fun W => by
    have := ynumber_any W s0 hs64 8 (by decide)
    rwa [show ((8 : Nat) : Int) = 8 from rfl, show ((s0 : Nat) : Int) = (ep : Int) * 1099511627776 + (ct : Int) by omega] at this
  have HNUM := Lib.hid hnum
  have HST := Lib.hid hst
  have HLT := Lib.hid hlt
  have HSF := Lib.hid (sealF_len ⟨ep, ct, fi, la, da⟩ h3)
  have HSQ := Lib.hid (seal_flat ⟨ep, ct, fi, la, da⟩ h3)
  have HSL := Lib.hid (sealF_lt ⟨ep, ct, fi, la, da⟩ hlt h3)
  have HB1 := Lib.hid hb1
  have HH := Lib.hid hH
  have HV1 := Lib.hid hv1
  have hz1 : w.heap.size < (w.alloc (.cells #[.int .u64 ep, .int .u64 ct, .bool fi, .bool la, .slice ao da.length cap] 93)).heap.size := by simp
  clear hnum hst hs hlt hb1 hH hv1 hv0 hc3
  have q0 := cell_of (o := 0) HH.out rfl
  have q1 := cell_of (o := 1) HH.out rfl
  have q2 := cell_of (o := 2) HH.out rfl
  have q3 := cell_of (o := 3) HH.out rfl
  have q4 := cell_of (o := 4) HH.out rfl
  generalize hw1 : w.alloc (.cells #[.int .u64 ep, .int .u64 ct, .bool fi, .bool la, .slice ao da.length cap] 93) = w1 at *
  go_enter Tryz.func59, Tryz.ntmps59
  go_upto_region 1 with fail
  simp only [hw1] at *
  clear hw1
  go_upto_if 29 with (first
    | (go_at_call 90; refine (HNUM.out _).mono ?_; rintro e w2 ⟨v2, rfl, hO2, hb2⟩; obtain ⟨a2, n2, c2, rfl⟩ := LOut.shape hO2; have r2 := (hb2.cell (p := ⟨w.heap.size, 2, none⟩) hz1).trans q2; have r3 := (hb2.cell (p := ⟨w.heap.size, 3, none⟩) hz1).trans q3; have r4 := (hb2.cell (p := ⟨w.heap.size, 4, none⟩) hz1).trans q4; have HO2 := Lib.hid hO2; have HB2 := Lib.hid hb2; clear hO2 hb2 q0 q1 q2 q3 q4; go_frame)
    | fail)
  go_cut [5] (fun s wx => s = .int .u8 ((fi.toNat : Nat) : Int) ∧ wx = w2)
  case first =>
    cases fi with
    | true =>
      go_wp2
      go_meet
      case rel => exact ⟨rfl, rfl⟩
    | false =>
      go_wp2
      go_meet
      case rel => exact ⟨rfl, rfl⟩
  case rest =>
  obtain ⟨rfl, hw⟩ := hcut
  obtain rfl := hw.symm
  clear hw
  go_upto_if 31 with fail
  go_cut [5] (fun s wx => s = .int .u8 ((flagsN fi la : Nat) : Int) ∧ wx = w2)
  case first =>
    cases la with
    | true =>
      cases fi with
      | true =>
        go_wp2
        go_meet
        case rel => exact ⟨rfl, rfl⟩
      | false =>
        go_wp2
        go_meet
        case rel => exact ⟨rfl, rfl⟩
    | false =>
      go_wp2
      go_meet
      case rel => exact ⟨by cases fi <;> rfl, rfl⟩
  case rest =>
  obtain ⟨rfl, hw⟩ := hcut
  obtain rfl := hw.symm
  clear hw
  obtain ⟨fl, hfl⟩ : ∃ fl, flagsN fi la = fl := ⟨_, rfl⟩
  have HFL := Lib.hid hfl
  rw [hfl]
  clear hfl
  obtain ⟨px, hpx⟩ : ∃ px, w.heap.size = px := ⟨_, rfl⟩
  rw [hpx] at r2 r3 r4 hz1 ⊢
  have hpx2 : px < w2.heap.size := Nat.lt_of_lt_of_le hz1 HB2.out.size
  have hwd : IntKind.u8.wrap ((da.length : Nat) : Int) = ((da.length : Nat) : Int) := by rw [wrap8, Nat.mod_eq_of_lt (by omega)]
  go_upto_region 9 with fail
  go_cut [6] (fun s wx => ∃ (a : Option Addr) (n c : Nat), s = .slice a n c ∧ LOut en8 1 5 w2.heap.size wx (.slice a n c) (bytesN s0 8 ++ [fl, da.length]) ∧ Below w2.heap.size w2 wx)
  case first =>
    have hS : w2.drew.cell? ⟨px, 4, none⟩ = some (.slice ao da.length cap) := r4
    have hbl : ∀ W, Below w2.heap.size w2 W → W.cell? ⟨px, 4, none⟩ = some (.slice ao da.length cap) := fun W hW => (hW.cell (p := ⟨px, 4, none⟩) hpx2).trans r4
    have h8 : (bytesN s0 8).length ≤ 50000 := by rw [bytesN_len]; decide
    have hd0 : Below w2.heap.size w2 w2.drew := (Below.refl _ _).drew
    refine wp_region_t (fun w' => w'.cell? ⟨px, 4, none⟩ = some (.slice ao da.length cap)) [(0, 1), (2, 1), (3, 1), (4, 0), (5, 1), (6, 1), (1, 2), (7, 2), (8, 2), (9, 1)]
      (.one 0 1 (.one 2 1 (.one 3 1 (.one 4 0 (.one 5 1 (.one 6 1 (.two 1 7 (.one 7 2 (.one 8 2 (.one 9 1 .nil))) (.one 1 2 (.one 8 2 (.one 9 1 .nil)))))))))) (by kernel_rfl) (by kernel_rfl) (by intro d v c a w h; cases d <;> exact h) ?_
    iterate 3 (refine t_take rfl (fun K hK => ?_); go_simp; refine hK _ ?_; clear hK K)
    refine t_read rfl hS (fun w' h => exec_load1 ⟨⟨_, Tryz.underlying53, rfl⟩⟩ rfl h) ?_
    iterate 2 (refine t_take rfl (fun K hK => ?_); go_simp; refine hK _ ?_; clear hK K)
    refine t_two rfl rfl (fun K hK => ?_) (fun K hK => ?_)
    · go_simp
      refine (rcopy_any w2.drew _ _ ((HO2.out.sl el8.len).below hd0) h8).mono ?_
      rintro e w3 ⟨v3, rfl, hO3, hb3⟩
      obtain ⟨a3, n3, c3, rfl⟩ := LOut.shape hO3
      have hb23 : Below w2.heap.size w2 w3 := hd0.trans hb3
      refine hK _ _ (hbl _ hb23) ?_
      clear hK K
      have hl : LSl en8 1 (w3.alloc (.cells #[.int .u8 ((fl : Nat) : Int), .int .u8 ((da.length : Nat) : Int)] 5)) (.slice (some ⟨w3.heap.size, 0, none⟩) 2 2) [fl, da.length] := lsl_block (L := [fl, da.length]) heap_alloc_at (by simp)
      have hba : Below w3.heap.size w3 (w3.alloc (.cells #[.int .u8 ((fl : Nat) : Int), .int .u8 ((da.length : Nat) : Int)] 5)) := (Below.refl _ _).alloc (Nat.le_refl _) _
      refine t_show rfl (exec_build2 rfl rfl) (hbl _ (hb23.trans (hba.mono hb23.size))) ?_
      obtain ⟨v4, w4, hr, hO4, hm4, -⟩ := exec_appendMX (P := Tryz.prog) el8 (ty := 53) (hO3.below hba) hl (by rw [bytesN_len]; simp)
      obtain ⟨a4, n4, c4, rfl⟩ := LOut.shape hO4
      have hb24 : Below w2.heap.size w2 w4 := (hb23.trans (hba.mono hb23.size)).trans (hm4.below (Nat.le_trans hb23.size hba.size) fun x hx e => by have := hO3.lo x e; have h9 : w2.heap.size ≤ x := this; omega)
      refine t_show rfl (hr _ _ _ _ _ _ _ rfl rfl) (hbl _ hb24) ?_
      iterate 1 (refine t_take rfl (fun K hK => ?_); go_simp; refine hK _ ?_; clear hK K)
      refine t_nil ?_
      have HO4 := Lib.hid hO4
      have HB4 := Lib.hid hb24
      clear hO4 hb24 hr hm4 hba hl hO3 hb3 hb23
      go_wp2
      go_meet
      case rel => exact ⟨_, _, _, rfl, HO4.out, HB4.out⟩
    · refine oper_run (exec_build2 rfl rfl) ?_
      have hl : LSl en8 1 (w2.drew.alloc (.cells #[.int .u8 ((fl : Nat) : Int), .int .u8 ((da.length : Nat) : Int)] 5)) (.slice (some ⟨w2.heap.size, 0, none⟩) 2 2) [fl, da.length] := lsl_block (L := [fl, da.length]) (heap_alloc_at (w := w2.drew)) (by simp)
      have hba : Below w2.heap.size w2 (w2.drew.alloc (.cells #[.int .u8 ((fl : Nat) : Int), .int .u8 ((da.length : Nat) : Int)] 5)) := hd0.alloc (Nat.le_refl _) _
      have hcp := rcopy_any _ _ _ ((HO2.out.sl el8.len).below hba) h8
      have hba2 := hba.size
      have e9 : w2.drew.heap.size = w2.heap.size := rfl
      rw [e9]
      generalize w2.drew.alloc (.cells #[.int .u8 ((fl : Nat) : Int), .int .u8 ((da.length : Nat) : Int)] 5) = w3 at *
      refine hK _ _ (hbl _ hba) ?_
      clear hK K
      refine t_show' rfl (fun K hK => ?_)
      go_simp
      refine hcp.mono ?_
      rintro e w4 ⟨v3, rfl, hO3, hb3⟩
      obtain ⟨a3, n3, c3, rfl⟩ := LOut.shape hO3
      have hb23 : Below w2.heap.size w2 w4 := hba.trans (hb3.mono hba2)
      refine hK _ _ (hbl _ hb23) ?_
      clear hK K
      obtain ⟨v5, w5, hr, hO4, hm4, -⟩ := exec_appendMX (P := Tryz.prog) el8 (ty := 53) hO3 (hl.below hb3) (by rw [bytesN_len]; simp)
      obtain ⟨a4, n4, c4, rfl⟩ := LOut.shape hO4
      have hb24 : Below w2.heap.size w2 w5 := hb23.trans (hm4.below hb23.size fun x hx e => by have := hO3.lo x e; omega)
      refine t_show rfl (hr _ _ _ _ _ _ _ rfl rfl) (hbl _ hb24) ?_
      iterate 1 (refine t_take rfl (fun K hK => ?_); go_simp; refine hK _ ?_; clear hK K)
      refine t_nil ?_
      have HO4 := Lib.hid (hO4.mono hba2)
      have HB4 := Lib.hid hb24
      clear hO4 hb24 hr hm4 hba hl hO3 hb3 hb23 hcp
      go_wp2
      go_meet
      case rel => exact ⟨_, _, _, rfl, HO4.out, HB4.out⟩
  case rest =>
  obtain ⟨a6, n6, c6, rfl, hO6, hb6⟩ := hcut
  have r4c := (hb6.cell (p := ⟨px, 4, none⟩) hpx2).trans r4
  have hdv : LSl en8 1 wc (.slice ao da.length cap) da := (HV1.out.below HB2.out).below hb6
  have hpl : (bytesN s0 8 ++ [fl, da.length]).length = 10 := by rw [List.length_append, bytesN_len]; rfl
  have hsz6 : (bytesN s0 8 ++ [fl, da.length]).length + da.length ≤ 100000 := by rw [hpl]; omega
  obtain ⟨L, hL⟩ : ∃ L, sealF ⟨ep, ct, fi, la, da⟩ = L := ⟨_, rfl⟩
  have hLe : L = bytesN s0 8 ++ [fl, da.length] ++ da ++ List.replicate (106 - da.length) 0 := by
    rw [← hL]
    unfold sealF
    rw [HST.out, HFL.out]
  have hsq := HSQ.out
  have hsl := HSL.out
  have hsf := HSF.out
  rw [hL] at hsq hsl hsf
  rw [HST.out] at hsq
  obtain ⟨pre, hpre⟩ : ∃ pre, bytesN s0 8 ++ [fl, da.length] = pre := ⟨_, rfl⟩
  rw [hpre] at hO6 hpl hsz6 hLe
  have HSQ := Lib.hid hsq
  have HSL := Lib.hid hsl
  have HSF := Lib.hid hsf
  have HLE := Lib.hid hLe
  have HPL := Lib.hid hpl
  have HB6 := Lib.hid hb6
  clear hsq hsl hsf hLe hpl hL hpre r2 r3 r4 hb6 hwd
  go_wp2_with (first
    | ((with_reducible refine wpList_appendM el8 hO6 hdv hsz6 ?_ ?_ ?_); rfl; rfl; (intro v7 w7 hO7 hb7 hg7; obtain ⟨a7, n7, c7, rfl⟩ := LOut.shape hO7; have HO7 := Lib.hid hO7; have HB7 := Lib.hid (HB6.out.trans hb7); clear hO7 hb7 hg7 r4c); go_frame)
    | fail)
  clear hO6 hdv hsz6
  go_loopw [6] (fun ov wi => ∃ j, j ≤ 106 - da.length ∧ LOut en8 1 5 w2.heap.size wi ov (pre ++ da ++ List.replicate j 0) ∧ Below w2.heap.size w2 wi) (fun ov _ => 116 - slLen ov)
  case atStart => exact ⟨0, Nat.zero_le _, by simpa using HO7.out, HB7.out⟩
  case round =>
    obtain ⟨j, hj, hO, hb⟩ := hrel
    obtain ⟨cs, hcs⟩ : ∃ cs, pre ++ da ++ List.replicate j 0 = cs := ⟨_, rfl⟩
    rw [hcs] at hO
    have hcl' : cs.length = 10 + da.length + j := by rw [← hcs, List.length_append, List.length_append, HPL.out]; simp
    obtain ⟨ao3, cap3, rfl, hcl, hcm, hcx⟩ := hO.sl el8.len
    clear hcx
    unfold maxLen at hcm
    by_cases hltc : cs.length < 116
    · have hd : decide (cs.length < 116) = true := by simp [hltc]
      have hml : cs.length ≤ 1000 := by omega
      have HCL := Lib.hid hcl'
      have HCS := Lib.hid hcs
      clear hcl' hcs
      go_wp2_with (first
        | ((with_reducible refine wpList_append1 el8 hO 0 hml ?_ ?_ ?_ ?_); rfl; rfl; rfl; (intro v8 w8 hO8 hb8; obtain ⟨a8, n8, c8, rfl⟩ := LOut.shape hO8); go_frame)
        | fail)
      have hcs := HCS.out
      have hcl' := HCL.out
      obtain ⟨_, _, hv8, _, _, _⟩ := hO8.sl el8.len
      obtain ⟨-, rfl, -⟩ : a8 = _ ∧ n8 = (cs ++ [0]).length ∧ c8 = _ := by simpa using hv8
      refine ⟨⟨j + 1, by omega, ?_, hb.trans hb8⟩, by simp [slLen]; omega⟩
      rw [List.replicate_succ', ← List.append_assoc, hcs]
      exact hO8
    · have hd : decide (cs.length < 116) = false := by simp; omega
      obtain rfl : j = 106 - da.length := by omega
      obtain rfl : cs = L := by rw [← hcs, HLE.out]
      have hz32 := fsum_lt cs
      have hadd := yadd_any wr _ cs (hO.sl el8.len) HSL.out (by rw [HSF.out]; decide)
      obtain ⟨z, hz⟩ : ∃ z, fsum cs = z := ⟨_, rfl⟩
      have HZ := Lib.hid hz
      rw [hz] at hadd hz32
      have hn4 := ynumber_any wr z (by omega) 4 (by decide)
      rw [show ((4 : Nat) : Int) = 4 from rfl] at hn4
      have hz32' : (z : Int) < 4294967296 := by omega
      have hcl2 : cs.length = 116 := HSF.out
      have hs1 : cs.length + (bytesN z 4).length ≤ 100000 := by rw [hcl2, bytesN_len]; decide
      have hs2 : (cs ++ bytesN z 4).length + (bytesN s0 8).length ≤ 100000 := by rw [List.length_append, hcl2, bytesN_len, bytesN_len]; decide
      have HO := Lib.hid hO
      have HB := Lib.hid hb
      clear hz hcs hcl' hO hb hj hcl2
      have HS1 := Lib.hid hs1
      have HS2 := Lib.hid hs2
      have HADD := Lib.hid hadd
      have HN4 := Lib.hid hn4
      clear hs1 hs2 hadd hn4
      have hd2 : decide ((cs.length : Int) < 116) = false := decide_eq_false (by omega)
      have hd3 : ¬ ((cs.length : Int) < 116) := by omega
      have HLTC := Lib.hid hltc
      clear hltc
      go_upto_region 14 with (first
        | (go_at_call 91; refine HADD.out.mono ?_; rintro e w5 ⟨rfl, hw⟩; obtain rfl := hw.symm; clear hw; go_frame)
        | (go_at_call 90; refine HN4.out.mono ?_; rintro e w5 ⟨v5, rfl, hO5, hb5⟩; obtain ⟨a5, n5, c5, rfl⟩ := LOut.shape hO5; have HO5 := Lib.hid hO5; have HB5 := Lib.hid hb5; clear hO5 hb5; go_frame)
        | ((with_reducible refine wpList_appendM el8 (HO.out.below HB5.out) (HO5.out.sl el8.len) HS1.out ?_ ?_ ?_); rfl; rfl; (intro v9 w9 hO9 hb9 hg9; obtain ⟨a9, n9, c9, rfl⟩ := LOut.shape hO9; have HO9 := Lib.hid hO9; have HB9 := Lib.hid ((HB.out.trans (HB5.out.mono HB.out.size)).trans hb9); clear hO9 hb9 hg9); go_frame)
        | fail)
      have hst9 : LSl en8 1 w9 (.slice a2 n2 c2) (bytesN s0 8) := (HO2.out.sl el8.len).below HB9.out
      go_wp2_with (first
        | ((with_reducible refine wpList_appendM el8 HO9.out hst9 HS2.out ?_ ?_ ?_); rfl; rfl; (intro vx wx hOx hbx hgx; obtain ⟨ax, nx, cx, rfl⟩ := LOut.shape hOx; have HOX := Lib.hid hOx; have HBX := Lib.hid (HB9.out.trans hbx); clear hOx hbx hgx); go_frame)
        | fail)
      go_ret2
      have s01 := HB1.out.size
      have s12 := HB2.out.size
      have hfin : w.heap.size ≤ w2.heap.size := Nat.le_trans s01 s12
      rw [hpx] at hfin
      refine ⟨_, rfl, ?_, ?_⟩
      · rw [HSQ.out, HZ.out]
        exact HOX.out.mono hfin
      · have h1 := HB1.out
        have h2 := HB2.out
        rw [hpx] at h1 s01
        exact (h1.trans (h2.mono s01)).trans (HBX.out.mono hfin)
end Go.Proofs.YtmakpbjknklpiaaGreat

/- The document's Unseal, walked. -/
namespace Go.Proofs.YtmakpbjknklpiaaGreat
open Go.RowKit Go.Tn Go.Tn.Bt Go.Tn.Lp Go.Tn.Dk
theorem aggXP (ep ct : Int) (fi la : Bool) (v : Value) : AggT Tryz.prog 93 (#[.int .u64 ep, .int .u64 ct, .bool fi, .bool la, v] : Array Value).size := ⟨⟨_, Tryz.underlying93, rfl⟩, by kernel_rfl⟩
theorem oneXP (x1 x2 : Int) (x3 x4 : Bool) (vo : Option Addr) (vn vc : Nat) : (#[.int .u64 x1, .int .u64 x2, .bool x3, .bool x4, .slice vo vn vc] : Array Value).all (·.oneCell') = true := by simp [Value.oneCell']
theorem builtXP (ep ct : Int) (fi la : Bool) (a : Option Addr) (n c : Nat) : Tryz.prog.built 93 [(0, .int .u64 ep), (1, .int .u64 ct), (2, .bool fi), (3, .bool la), (4, .slice a n c)] = some #[.int .u64 ep, .int .u64 ct, .bool fi, .bool la, .slice a n c] := by kernel_rfl
/-- What Unseal answers. -/
def UnR (bs : List Nat) (w : World) (e : Ending) (w' : World) : Prop :=
  Below w.heap.size w w' ∧ match unsealB bs with
    | some p => ∃ v', e = .returned (.tuple #[.agg (pcCs p v'), .int .i64 0]) ∧ LOut en8 1 5 w.heap.size w' v' p.da
    | none => e = .returned (.tuple #[.agg #[.int .u64 0, .int .u64 0, .bool false, .bool false, .slice none 0 0], .int .i64 4])
theorem unseal_hi {bs : List Nat} {c8 : Nat} (h8 : bs[8]? = some c8) (hc : 3 < c8) : unsealB bs = none := by
  unfold unsealB
  refine if_neg fun ⟨_, h9, hs⟩ => ?_
  have hl : (pieceOf bs).da.length ≤ 106 := by
    unfold pieceOf
    simp only [List.length_take]
    omega
  have h := (seal_at8 (pieceOf bs) hl).1
  rw [hs, h8] at h
  have h := Option.some.inj h
  have hf : flagsN (pieceOf bs).fi (pieceOf bs).la ≤ 3 := by
    cases (pieceOf bs).fi <;> cases (pieceOf bs).la <;> decide
  omega
theorem unseal_lo {bs : List Nat} {c9 : Nat} (h9 : bs[9]? = some c9) (hc : 106 < c9) : unsealB bs = none := by
  unfold unsealB
  refine if_neg fun ⟨_, h, _⟩ => ?_
  rw [List.getD_eq_getElem?_getD, h9, Option.getD_some] at h
  omega
theorem cell8_at {w W : World} {b off n cap : Nat} {bs : List Nat} (h : LSl en8 1 w (.slice (some ⟨b, off, none⟩) n cap) bs) (hb : Below w.heap.size w W) {i c : Nat} (hi : bs[i]? = some c) : W.cell? ⟨b, off + i, none⟩ = some (.int .u8 (c : Nat)) := by
  obtain ⟨ao, c', hv, h1, h2, h3⟩ := h
  cases hv
  obtain ⟨b', off', hv, hlt, hc⟩ := h3 (by have := (List.getElem?_eq_some_iff.1 hi).1; omega)
  cases hv
  have := ((hc i c hi).below' hb hlt) 0 (by simp)
  simpa using this
set_option maxRecDepth 20000 in
theorem yunseal_no (w : World) (v : Value) (bs : List Nat) (h : LSl en8 1 w v bs) (hbl : ∀ x ∈ bs, x < 256) (hl : bs.length = 128) (c8 c9 : Nat) (h8 : bs[8]? = some c8) (h9 : bs[9]? = some c9) (hc : 3 < c8 ∨ 106 < c9) : Calls Tryz.prog 76 #[v] w (UnR bs w) := by
  have hu : unsealB bs = none := by
    rcases hc with hc | hc
    · exact unseal_hi h8 hc
    · exact unseal_lo h9 hc
  obtain ⟨ao, cap, rfl, h1, h2, h3⟩ := id h
  obtain ⟨b, off, rfl, hb, hcell⟩ := h3 (by omega)
  have hbA : Below w.heap.size w (w.alloc (.cells #[.int .u64 0, .int .u64 0, .bool false, .bool false, .slice none 0 0] 93)) := (Below.refl _ _).alloc (Nat.le_refl _) _
  have x8 := cell8_at h hbA h8
  have x9 := cell8_at h hbA h9
  have hb8 := hbl c8 (List.mem_of_getElem? h8)
  have hb9 := hbl c9 (List.mem_of_getElem? h9)
  have i8 : (c8 : Int) < 256 := by omega
  have i9 : (c9 : Int) < 256 := by omega
  have HU := Lib.hid hu
  rw [hl]
  unfold maxLen at h2
  clear hcell h3 h hu h1
  by_cases hc8 : 3 < c8
  · have e8 : decide ((3 : Int) < (c8 : Int)) = true := decide_eq_true (by omega)
    clear hc
    go_enter Tryz.func76, Tryz.ntmps76
    go_wp2_with (first
      | ((with_reducible refine wpList_storeA_new (aggXP _ _ _ _ _) rfl (oneXP _ _ _ _ _ _ _) ?_ ?_ ?_); rfl; rfl; go_frame)
      | fail)
    (try simp only [Exit.inBlock, Exit.then])
    refine bodyPost_ret (results_cellT rfl _ rfl (aggXP _ _ _ _ _) (lies_of heap_alloc_at)) rfl ?_
    refine ⟨hbA, ?_⟩
    rw [HU.out]
    rfl
  · have e8 : decide ((3 : Int) < (c8 : Int)) = false := decide_eq_false (by omega)
    have e9 : decide ((106 : Int) < (c9 : Int)) = true := decide_eq_true (by omega)
    clear hc
    go_enter Tryz.func76, Tryz.ntmps76
    go_wp2_with (first
      | ((with_reducible refine wpList_storeA_new (aggXP _ _ _ _ _) rfl (oneXP _ _ _ _ _ _ _) ?_ ?_ ?_); rfl; rfl; go_frame)
      | fail)
    (try simp only [Exit.inBlock, Exit.then])
    refine bodyPost_ret (results_cellT rfl _ rfl (aggXP _ _ _ _ _) (lies_of heap_alloc_at)) rfl ?_
    refine ⟨hbA, ?_⟩
    rw [HU.out]
    rfl
set_option maxRecDepth 20000 in
set_option maxHeartbeats 4000000 in
theorem yunseal_main (w : World) (v : Value) (bs : List Nat) (h : LSl en8 1 w v bs) (hbl : ∀ x ∈ bs, x < 256) (hl : bs.length = 128) (c8 c9 : Nat) (h8 : bs[8]? = some c8) (h9 : bs[9]? = some c9) (hc8 : c8 ≤ 3) (hc : c9 ≤ 106) : Calls Tryz.prog 76 #[v] w (UnR bs w) := by
  have hsl := h
  obtain ⟨ao, cap, rfl, h1, h2, h3⟩ := h
  obtain ⟨b, off, rfl, hb, hcell⟩ := h3 (by omega)
  rw [hl] at hsl h1 ⊢
  unfold maxLen at h2
  have hbA : Below w.heap.size w (w.alloc (.cells #[.int .u64 0, .int .u64 0, .bool false, .bool false, .slice none 0 0] 93)) := (Below.refl _ _).alloc (Nat.le_refl _) _
  have hP0 : (w.alloc (.cells #[.int .u64 0, .int .u64 0, .bool false, .bool false, .slice none 0 0] 93)).heap[w.heap.size]? = some (.cells #[.int .u64 0, .int .u64 0, .bool false, .bool false, .slice none 0 0] 93 (0, 0)) := heap_alloc_at
  have x8 := cell8_at hsl hbA h8
  have x9 := cell8_at hsl hbA h9
  have hs1 := hsl.below hbA
  have hcap : (128 : Int) ≤ cap := by omega
  have hc' : (c9 : Int) ≤ 106 := by omega
  have hc8' : (c8 : Int) ≤ 3 := by omega
  have e8 : decide ((3 : Int) < (c8 : Int)) = false := decide_eq_false (by omega)
  have e9 : decide ((106 : Int) < (c9 : Int)) = false := decide_eq_false (by omega)
  have hrd := fun W (hW : LSl en8 1 W (.slice (some ⟨b, off, none⟩) 128 cap) bs) => yvalue_any W (.slice (some ⟨b, off, none⟩) 8 cap) (bs.take 8) (hW.take (by omega)) (fun x hx => hbl x (List.mem_of_mem_take hx)) (by rw [List.length_take]; omega)
  have hN := numOf_lt 8 (bs.take 8) (by rw [List.length_take]; omega) fun x hx => hbl x (List.mem_of_mem_take hx)
  obtain ⟨N, hNe⟩ : ∃ N, numOf (bs.take 8) = N := ⟨_, rfl⟩
  simp only [hNe] at hrd
  rw [hNe] at hN
  have hN64 : N < 2 ^ 64 := hN
  have hEle : N / 1099511627776 ≤ 16777215 := by omega
  have hCle : N % 1099511627776 ≤ 1099511627775 := by omega
  have hdE : (N : Int) / 1099511627776 = ((N / 1099511627776 : Nat) : Int) := by omega
  have hdC : (N : Int) % 1099511627776 = ((N % 1099511627776 : Nat) : Int) := by omega
  have hdT : (N : Int).tmod 1099511627776 = ((N % 1099511627776 : Nat) : Int) := by
    rw [Int.tmod_eq_emod_of_nonneg (by omega)]
    exact hdC
  have hsub : ∀ W, LSl en8 1 W (.slice (some ⟨b, off, none⟩) 128 cap) bs → LSl en8 1 W (.slice (some ⟨b, off + 10, none⟩) c9 (cap - 10)) ((bs.drop 10).take c9) := fun W hW => by
    have h1 := hW.take (i := 10 + c9) (by omega)
    have h2 := h1.drop2 (i := 10) (ad := some ⟨b, off + 10, none⟩) (ln := c9) (cn := cap - 10) (by rw [List.length_take]; omega) (by rw [if_neg (by omega)]; simp [addr_add]) (by omega) rfl
    rw [List.drop_take, Nat.add_sub_cancel_left] at h2
    exact h2
  have hq1 : (0 : Int) ≤ 10 + c9 := by omega
  have hq2 : (10 : Int) + c9 ≤ cap := by omega
  have hq3 : (10 : Int) ≤ max (10 + (c9 : Int)) 0 := by omega
  have hq4 : (10 + (c9 : Int)).toNat - 10 = c9 := by omega
  have hq5 : ¬ cap = 10 := by omega
  obtain ⟨fi, hfi⟩ : ∃ fi, decide (c8 % 2 = 1) = fi := ⟨_, rfl⟩
  obtain ⟨la, hla⟩ : ∃ la, decide (c8 / 2 % 2 = 1) = la := ⟨_, rfl⟩
  have hF1 : ((c8 : Int) % 2 == 1) = fi := by
    rw [← hfi]
    by_cases h : c8 % 2 = 1
    · rw [decide_eq_true h, beq_iff_eq]; omega
    · rw [decide_eq_false h, beq_eq_false_iff_ne]; omega
  have hF1' : ((c8 : Int).tmod 2 == 1) = fi := by
    rw [show (c8 : Int).tmod 2 = (c8 : Int) % 2 from Int.tmod_eq_emod_of_nonneg (by omega)]
    exact hF1
  have hF2 : decide ((1 : Int) < (c8 : Int)) = la := by
    rw [← hla]
    by_cases h : c8 / 2 % 2 = 1
    · rw [decide_eq_true h, decide_eq_true_eq]; omega
    · rw [decide_eq_false h]; exact decide_eq_false (by omega)
  have hpiece : pieceOf bs = ⟨N / 1099511627776, N % 1099511627776, fi, la, (bs.drop 10).take c9⟩ := by
    unfold pieceOf
    rw [hNe, List.getD_eq_getElem?_getD, h8, List.getD_eq_getElem?_getD, h9]
    simp only [Option.getD_some, hfi, hla]
  obtain ⟨E, hE⟩ : ∃ E, N / 1099511627776 = E := ⟨_, rfl⟩
  obtain ⟨C, hC⟩ : ∃ C, N % 1099511627776 = C := ⟨_, rfl⟩
  obtain ⟨D, hD⟩ : ∃ D, (bs.drop 10).take c9 = D := ⟨_, rfl⟩
  rw [hE, hC, hD] at hpiece
  rw [hE] at hEle hdE
  rw [hC] at hCle hdC hdT
  simp only [hD] at hsub
  have hDl : D.length ≤ 106 := by rw [← hD, List.length_take]; omega
  have hDlt : ∀ x ∈ D, x < 256 := fun x hx => by
    rw [← hD] at hx
    exact hbl x (List.mem_of_mem_drop (List.mem_of_mem_take hx))
  have hun : unsealB bs = if sealB ⟨E, C, fi, la, D⟩ = bs then some ⟨E, C, fi, la, D⟩ else none := by
    unfold unsealB
    rw [hpiece]
    have h9' : bs.getD 9 0 ≤ 106 := by rw [List.getD_eq_getElem?_getD, h9]; exact hc
    by_cases hs : sealB ⟨E, C, fi, la, D⟩ = bs
    · rw [if_pos ⟨hl, h9', hs⟩, if_pos hs]
    · rw [if_neg (fun e => hs e.2.2), if_neg hs]
  have HUN := Lib.hid hun
  have HRD := Lib.hid hrd
  have HSUB := Lib.hid hsub
  have HDLT := Lib.hid hDlt
  have HS1 := Lib.hid hs1
  have HBA := Lib.hid hbA
  have HP0 := Lib.hid hP0
  have HSL := Lib.hid hsl
  have hw1l : w.heap.size < (w.alloc (.cells #[.int .u64 0, .int .u64 0, .bool false, .bool false, .slice none 0 0] 93)).heap.size := by simp
  clear hun hrd hsub hDlt hs1 hbA hP0 hsl hcell h3 hE hC hD hpiece hfi hla hNe h8 h9 hbl hl
  generalize hw1 : w.alloc (.cells #[.int .u64 0, .int .u64 0, .bool false, .bool false, .slice none 0 0] 93) = w1 at *
  go_enter Tryz.func76, Tryz.ntmps76
  go_upto_region 1 with fail
  simp only [hw1] at *
  clear hw1
  obtain ⟨px, hpx⟩ : ∃ px, w.heap.size = px := ⟨_, rfl⟩
  have HPX := Lib.hid hpx
  rw [hpx] at hw1l HP0 ⊢
  clear hpx
  go_upto_region 4 with (first
    | (go_at_call 38; refine (HRD.out _ HS1.out).mono ?_; rintro e w2 ⟨rfl, hw⟩; obtain rfl := hw.symm; clear hw; go_frame)
    | fail)
  go_cut [5] (fun s wx => ∃ (xb : Nat) (a : Option Addr) (n c : Nat), s = .pointer (some ⟨xb, 0, none⟩) ∧ wx.heap[xb]? = some (.cells #[.int .u64 (E : Nat), .int .u64 (C : Nat), .bool fi, .bool la, .slice a n c] 93 (0, 0)) ∧ LOut en8 1 5 w1.heap.size wx (.slice a n c) D ∧ Below w1.heap.size w1 wx)
  case first =>
    have hS : w1.drew.cell? ⟨b, off + 8, none⟩ = some (.int .u8 (c8 : Nat)) ∧ w1.drew.cell? ⟨b, off + 9, none⟩ = some (.int .u8 (c9 : Nat)) := ⟨x8, x9⟩
    have hbw : b < w1.heap.size := Nat.lt_of_lt_of_le hb HBA.out.size
    have hfr : ∀ W, Below w1.heap.size w1 W → W.cell? ⟨b, off + 8, none⟩ = some (.int .u8 (c8 : Nat)) ∧ W.cell? ⟨b, off + 9, none⟩ = some (.int .u8 (c9 : Nat)) := fun W hW => ⟨(hW.cell (p := ⟨b, off + 8, none⟩) hbw).trans x8, (hW.cell (p := ⟨b, off + 9, none⟩) hbw).trans x9⟩
    have hd0 : Below w1.heap.size w1 w1.drew := (Below.refl _ _).drew
    have hW1 : IntKind.i64.wrap ((c9 : Nat) : Int) = ((c9 : Nat) : Int) := IntWalk.i64_in _ (by omega)
    have hW2 : IntKind.i64.wrap (10 + ((c9 : Nat) : Int)) = 10 + ((c9 : Nat) : Int) := IntWalk.i64_in _ (by omega)
    have hW3 : IntKind.u64.wrap ((E : Nat) : Int) = ((E : Nat) : Int) := IntWalk.u64_in _ (by omega)
    refine wp_region_t (fun w' => w'.cell? ⟨b, off + 8, none⟩ = some (.int .u8 (c8 : Nat)) ∧ w'.cell? ⟨b, off + 9, none⟩ = some (.int .u8 (c9 : Nat))) [(0, 1), (1, 1), (2, 1), (3, 1), (4, 1), (5, 1), (6, 0), (7, 1), (8, 1), (9, 1), (10, 1), (11, 0), (12, 1), (13, 1), (14, 1), (15, 1), (16, 0), (17, 1), (18, 1), (19, 1), (20, 2), (21, 1), (22, 2), (23, 3)]
      (.one 0 1 (.one 1 1 (.one 2 1 (.one 3 1 (.one 4 1 (.one 5 1 (.one 6 0 (.one 7 1 (.one 8 1 (.one 9 1 (.one 10 1 (.one 11 0 (.one 12 1 (.one 13 1 (.one 14 1 (.one 15 1 (.one 16 0 (.one 17 1 (.one 18 1 (.one 19 1 (.two 20 22 (.one 21 1 (.one 22 2 (.one 23 3 .nil))) (.one 20 2 (.one 21 1 (.one 23 3 .nil)))))))))))))))))))))))) (by kernel_rfl) (by kernel_rfl) (by intro d v c a w h; cases d <;> exact h) ?_
    iterate 6 (refine t_take rfl (fun K hK => ?_); go_simp; refine hK _ ?_; clear hK K)
    refine t_read rfl hS (fun w' h => exec_load1 ⟨⟨_, Tryz.underlying5, rfl⟩⟩ rfl h.1) ?_
    iterate 4 (refine t_take rfl (fun K hK => ?_); go_simp; refine hK _ ?_; clear hK K)
    refine t_read rfl hS (fun w' h => exec_load1 ⟨⟨_, Tryz.underlying5, rfl⟩⟩ rfl h.1) ?_
    iterate 4 (refine t_take rfl (fun K hK => ?_); go_simp; refine hK _ ?_; clear hK K)
    refine t_read rfl hS (fun w' h => exec_load1 ⟨⟨_, Tryz.underlying5, rfl⟩⟩ rfl h.2) ?_
    iterate 3 (refine t_take rfl (fun K hK => ?_); go_simp; refine hK _ ?_; clear hK K)
    refine t_two rfl rfl (fun K hK => ?_) (fun K hK => ?_)
    · go_simp
      refine (rcopy_any w1.drew _ _ (HSUB.out _ (HS1.out.below hd0)) (by omega)).mono ?_
      rintro e w3 ⟨v3, rfl, hO3, hb3⟩
      obtain ⟨a3, n3, c3, rfl⟩ := LOut.shape hO3
      have hb23 : Below w1.heap.size w1 w3 := hd0.trans hb3
      refine hK _ _ (hfr _ hb23) ?_
      clear hK K
      refine t_take rfl (fun K hK => ⟨_, fun w' => exec_buildA rfl (builtXP E C fi la a3 n3 c3), ?_⟩)
      go_simp
      refine hK _ ?_
      clear hK K
      refine t_show' rfl (fun K hK => ?_)
      go_simp
      have hba : Below w3.heap.size w3 (w3.alloc (.cells #[.int .u64 0, .int .u64 0, .bool false, .bool false, .slice none 0 0] 93)) := (Below.refl _ _).alloc (Nat.le_refl _) _
      have hX3 : (w3.alloc (.cells #[.int .u64 0, .int .u64 0, .bool false, .bool false, .slice none 0 0] 93)).heap[w3.heap.size]? = some (.cells #[.int .u64 0, .int .u64 0, .bool false, .bool false, .slice none 0 0] 93 (0, 0)) := heap_alloc_at
      have hb24 := hb23.trans (hba.mono hb23.size)
      obtain ⟨xb, hxb⟩ : ∃ xb, w3.heap.size = xb := ⟨_, rfl⟩
      have hO4 := hO3.below hba
      have hne : ∀ r, (Value.slice a3 n3 c3).ownBlock = some r → r ≠ xb := fun r hr => by have := hO3.lt hr; omega
      have hxl : w1.heap.size ≤ xb := by rw [← hxb]; exact hb23.size
      rw [hxb] at hX3 ⊢
      generalize w3.alloc _ = w4 at *
      refine hK _ _ (hfr w4 hb24) ?_
      clear hK K
      obtain ⟨w9, hst, hh9, hm9⟩ := exec_storeB (ρ := fun _ => undef) (ty := 0) (pos := "") (after := #[]) (x := .tmp 0) (y := .tmp 0) (aggXP E C fi la (.slice a3 n3 c3)) hX3 rfl (oneXP _ _ _ _ _ _ _)
      refine t_skip rfl (hst _ _ _ _ _ _ _ _ rfl rfl) ?_
      refine t_nil ?_
      have hb9 := hb24.trans (hm9.below hb24.size fun x hx e => by omega)
      have hO9 := hO4.kept hm9.size fun r hr => hm9.block r (hO4.lt hr) (hne r hr)
      have HO9 := Lib.hid hO9
      have HB9 := Lib.hid hb9
      have HH9 := Lib.hid hh9
      clear hO9 hb9 hh9 hm9 hst hO4 hO3 hb3 hba hX3 hb24 hb23
      go_wp2
      go_meet
      case rel => exact ⟨xb, a3, n3, c3, rfl, HH9.out, HO9.out, HB9.out⟩
    · go_simp
      have hba : Below w1.heap.size w1 (w1.alloc (.cells #[.int .u64 0, .int .u64 0, .bool false, .bool false, .slice none 0 0] 93)).drew := ((Below.refl w1.heap.size w1).alloc (Nat.le_refl _) _).drew
      have hX3 : (w1.alloc (.cells #[.int .u64 0, .int .u64 0, .bool false, .bool false, .slice none 0 0] 93)).drew.heap[w1.heap.size]? = some (.cells #[.int .u64 0, .int .u64 0, .bool false, .bool false, .slice none 0 0] 93 (0, 0)) := heap_alloc_at (w := w1)
      obtain ⟨xb, hxb⟩ : ∃ xb, w1.heap.size = xb := ⟨_, rfl⟩
      have hxw : xb < (w1.alloc (.cells #[.int .u64 0, .int .u64 0, .bool false, .bool false, .slice none 0 0] 93)).drew.heap.size := by rw [← hxb]; exact lt_of_block hX3
      have hxl : w1.heap.size ≤ xb := by omega
      rw [hxb] at hX3 ⊢
      generalize (w1.alloc _).drew = w3 at *
      refine hK _ _ (hfr w3 hba) ?_
      clear hK K
      refine t_show' rfl (fun K hK => ?_)
      go_simp
      refine (rcopy_any w3 _ _ (HSUB.out _ (HS1.out.below hba)) (by omega)).mono ?_
      rintro e w4 ⟨v3, rfl, hO3, hb3⟩
      obtain ⟨a3, n3, c3, rfl⟩ := LOut.shape hO3
      have hb24 : Below w1.heap.size w1 w4 := hba.trans (hb3.mono hba.size)
      refine hK _ _ (hfr _ hb24) ?_
      clear hK K
      refine t_take rfl (fun K hK => ⟨_, fun w' => exec_buildA rfl (builtXP E C fi la a3 n3 c3), ?_⟩)
      go_simp
      refine hK _ ?_
      clear hK K
      have hX4 := (hb3.block _ (lt_of_block hX3)).trans hX3
      have hne : ∀ r, (Value.slice a3 n3 c3).ownBlock = some r → r ≠ xb := fun r hr => by have := hO3.lo r hr; omega
      obtain ⟨w9, hst, hh9, hm9⟩ := exec_storeB (ρ := fun _ => undef) (ty := 0) (pos := "") (after := #[]) (x := .tmp 0) (y := .tmp 0) (aggXP E C fi la (.slice a3 n3 c3)) hX4 rfl (oneXP _ _ _ _ _ _ _)
      refine t_skip rfl (hst _ _ _ _ _ _ _ _ rfl rfl) ?_
      refine t_nil ?_
      have hb9 := hb24.trans (hm9.below hb24.size fun x hx e => by omega)
      have hO9 := (hO3.mono hba.size).kept hm9.size fun r hr => hm9.block r (hO3.lt hr) (hne r hr)
      have HO9 := Lib.hid hO9
      have HB9 := Lib.hid hb9
      have HH9 := Lib.hid hh9
      clear hO9 hb9 hh9 hm9 hst hO3 hb3 hba hX3 hX4 hb24
      go_wp2
      go_meet
      case rel => exact ⟨xb, a3, n3, c3, rfl, HH9.out, HO9.out, HB9.out⟩
  case rest =>
  obtain ⟨xb, a3, n3, c3, rfl, hx, hO, hbc⟩ := hcut
  have hDv := hO.sl el8.len
  have hse := yseal_any wc E C fi la D (.slice a3 n3 c3) hDv HDLT.out hEle hCle hDl
  have HX := Lib.hid hx
  have HO := Lib.hid hO
  have HBC := Lib.hid hbc
  have HSE := Lib.hid hse
  clear hx hO hbc hDv hse x8 x9
  go_upto_region 6 with (first
    | ((with_reducible refine wpList_loadA (aggXP E C fi la (.slice a3 n3 c3)) (lies_of HX.out) ?_ ?_); rfl; go_frame)
    | (go_at_call 59; refine HSE.out.mono ?_; rintro e w5 ⟨v5, rfl, hO5, hb5⟩; obtain ⟨a5, n5, c5, rfl⟩ := LOut.shape hO5; have HO5 := Lib.hid hO5; have HB5 := Lib.hid hb5; clear hO5 hb5; go_frame)
    | fail)
  have hb15 : Below w1.heap.size w1 w5 := HBC.out.trans (HB5.out.mono HBC.out.size)
  have hsa := rsame_any w5 _ _ bs (sealB ⟨E, C, fi, la, D⟩) (HS1.out.below hb15) (HO5.out.sl el8.len)
  have hx5 := (HB5.out.block _ (lt_of_block HX.out)).trans HX.out
  have hp5 := (hb15.block _ hw1l).trans HP0.out
  have HX5 := Lib.hid hx5
  have HP5 := Lib.hid hp5
  have HB15 := Lib.hid hb15
  have HOD := Lib.hid (HO.out.below HB5.out)
  clear hx5 hp5 hb15
  have hw1w : w.heap.size ≤ w1.heap.size := HBA.out.size
  have hbf : Below w.heap.size w w5 := HBA.out.trans (HB15.out.mono hw1w)
  have HBF := Lib.hid hbf
  clear hbf
  have hpxw : w.heap.size = px := HPX.out
  by_cases hee : bs = sealB ⟨E, C, fi, la, D⟩
  · have hd : decide (bs = sealB ⟨E, C, fi, la, D⟩) = true := decide_eq_true hee
    rw [hd] at hsa
    have HU : Hid (unsealB bs = some ⟨E, C, fi, la, D⟩) := Lib.hid (by rw [HUN.out, if_pos hee.symm])
    have HEE := Lib.hid hee
    clear hee hd HUN hpxw
    go_wp2_with (first
      | (go_at_call 25; refine hsa.mono ?_; rintro e w6 ⟨rfl, hb6⟩; have HB6 := Lib.hid hb6; have HX6 := Lib.hid ((hb6.block _ (lt_of_block HX5.out)).trans HX5.out); have HP6 := Lib.hid ((hb6.block _ (lt_of_block HP5.out)).trans HP5.out); clear hb6 hsa; go_frame)
      | ((with_reducible refine wpList_loadA (aggXP E C fi la (.slice a3 n3 c3)) (lies_of HX6.out) ?_ ?_); rfl; go_frame)
      | ((with_reducible refine wpList_storeB (aggXP E C fi la (.slice a3 n3 c3)) ?_ ?_ HP6.out rfl (oneXP _ _ _ _ _ _ _) ?_); rfl; rfl; (intro w7 hh7 hm7; have HH7 := Lib.hid hh7; have HM7 := Lib.hid hm7; clear hh7 hm7); go_frame)
      | fail)
    (try simp only [Exit.inBlock, Exit.then])
    refine bodyPost_ret (results_cellT rfl _ rfl (aggXP _ _ _ _ _) (lies_of HH7.out)) rfl ?_
    have hb67 : Below w.heap.size w w7 := (HBF.out.trans (HB6.out.mono HBF.out.size)).trans (HM7.out.below (Nat.le_trans HBF.out.size HB6.out.size) fun x hx e => by have := HPX.out; omega)
    refine ⟨hb67, ?_⟩
    rw [HU.out]
    refine ⟨.slice a3 n3 c3, rfl, ?_⟩
    have hO6 := HOD.out.below HB6.out
    exact (hO6.kept HM7.out.size fun r hr => HM7.out.block r (hO6.lt hr) fun e => by have := hO6.lo r hr; omega).mono hw1w
  · have hd : decide (bs = sealB ⟨E, C, fi, la, D⟩) = false := decide_eq_false hee
    rw [hd] at hsa
    have HU : Hid (unsealB bs = none) := Lib.hid (by rw [HUN.out, if_neg fun e => hee e.symm])
    clear hee hd HUN hpxw
    go_wp2_with (first
      | (go_at_call 25; refine hsa.mono ?_; rintro e w6 ⟨rfl, hb6⟩; have HB6 := Lib.hid hb6; have HP6 := Lib.hid ((hb6.block _ (lt_of_block HP5.out)).trans HP5.out); clear hb6 hsa; go_frame)
      | ((with_reducible refine wpList_storeB (aggXP 0 0 false false (.slice none 0 0)) ?_ ?_ HP6.out rfl (oneXP _ _ _ _ _ _ _) ?_); rfl; rfl; (intro w7 hh7 hm7; have HH7 := Lib.hid hh7; have HM7 := Lib.hid hm7; clear hh7 hm7); go_frame)
      | fail)
    (try simp only [Exit.inBlock, Exit.then])
    refine bodyPost_ret (results_cellT rfl _ rfl (aggXP _ _ _ _ _) (lies_of HH7.out)) rfl ?_
    have hb67 : Below w.heap.size w w7 := (HBF.out.trans (HB6.out.mono HBF.out.size)).trans (HM7.out.below (Nat.le_trans HBF.out.size HB6.out.size) fun x hx e => by have := HPX.out; omega)
    refine ⟨hb67, ?_⟩
    rw [HU.out]
    rfl
theorem yunseal_any (w : World) (v : Value) (bs : List Nat) (h : LSl en8 1 w v bs) (hs : secB bs) : Calls Tryz.prog 76 #[v] w (UnR bs w) := by
  obtain ⟨hl, hbl⟩ := hs
  have h8 : bs[8]? = some (bs[8]'(by omega)) := List.getElem?_eq_getElem _
  have h9 : bs[9]? = some (bs[9]'(by omega)) := List.getElem?_eq_getElem _
  by_cases hc : 3 < (bs[8]'(by omega)) ∨ 106 < (bs[9]'(by omega))
  · exact yunseal_no w v bs h hbl hl _ _ h8 h9 hc
  · exact yunseal_main w v bs h hbl hl _ _ h8 h9 (by omega) (by omega)
end Go.Proofs.YtmakpbjknklpiaaGreat
