/- Proved: VaultRises returns true and its arguments read as they did. No condition: of all calls. -/
import Derived.Test.YtipbaajdnnddgaaGreatRows
import Derived.Below
import Derived.WalkKit
import Derived.ProofKit
import Derived.ChangeOld
import Derived.Test.YtipbaajdnnddgaaGreatMgVlj33
import Derived.OpenShut
import Derived.ShutString
import Derived.Lib.SmallJoins
/- The rows, and the program's knob. -/
namespace Go.Proofs.YtipbaajdnnddgaaGreat
open Go.RowKit
theorem Tryz.own : ownKnob Tryz.prog.godebug = none := by kernel_rfl
theorem Tryz.laidOut : laidOutB Tryz.prog = true := by kernel_rfl
end Go.Proofs.YtipbaajdnnddgaaGreat

/- A call of a vault's, no fuse. -/
namespace Go.Tn.Ino
instance (r : Rec) (c : Int) (s : Nat) : Decidable (sesOk r c s) := by unfold sesOk; infer_instance
instance (r : Rec) (c : Int) : Decidable (holOk r c) := by unfold holOk; infer_instance
/-- The records behind the calls. -/
def sesR (r : Rec) (c : Int) (k : Nat) : Rec := if sesOk r c k then r.with_ c.toNat k false else r
def holR (r : Rec) (c : Int) (b : Bool) : Rec := if holOk r c then r.with_ c.toNat (r.ses c.toNat) b else r
theorem with_same {r : Rec} {c : Nat} (h : r.cl.length = 8) (hc : c < 8) : r.with_ c (r.ses c) (r.hol c) = r := by
  obtain ⟨b, cl⟩ := r
  unfold Rec.with_
  have hg := Rec.get_cl (r := ⟨b, cl⟩) h hc
  simp only at hg ⊢
  congr 1
  apply List.ext_getElem?
  intro j
  rw [List.getElem?_set]
  by_cases hj : c = j
  · subst hj
    rw [if_pos rfl, hg, if_pos (by have : cl.length = 8 := h; omega)]
  · rw [if_neg hj]
end Go.Tn.Ino
namespace Go.Proofs.YtipbaajdnnddgaaGreat
open Go.RowKit Go.Tn Go.Tn.Bt Go.Tn.Lp Go.Tn.Dk Go.Tn.Ino
section
variable {w w' : World} {F FD : Nat → Prop} {v s g p : Nat} {i : Nat} {l : Lg} {d : Dsk} {r : Rec}
theorem VPost.stay (h : VAt w F FD v s g p l d r) (cd : Nat) : VPost w F FD v s g p (l, d, cd) r (.returned (.int .i64 (cd : Nat))) w :=
  ⟨rfl, F, FD, h, Mod.refl _ _, fun b h => .inl h, fun b h => .inl h⟩
theorem vses_step (hV : VAt w F FD v s g p l d r) (hI : VInv i l d r) (hi : i ≤ 900) (hq : Quiet d) (hQ : d.Q = []) (c : Int) (k : Nat) (hk : k < 18446744073709551616) (hc63 : -9223372036854775808 ≤ c ∧ c < 9223372036854775808) :
    ∃ l' d' cd, VInv (i + 2) l' d' (sesR r c k) ∧ Quiet d' ∧ d'.Q = [] ∧ Calls Tryz.prog 9 #[.pointer (some ⟨v, 0, none⟩), .int .i64 c, .int .u64 k] w fun e w' => VPost w F FD v s g p (l', d', cd) (sesR r c k) e w' := by
  unfold sesR
  by_cases h : sesOk r c k
  · rw [if_pos h]
    obtain ⟨h1, h2, h3, h4⟩ := h
    obtain ⟨c, rfl⟩ := Int.eq_ofNat_of_zero_le h1
    rw [Int.toNat_natCast] at h3 ⊢
    obtain ⟨l', d', e1, e2, e3, e4, e5⟩ := hI.put hi hq (by rw [hQ]; decide) (r.with_ c k false) (with_fits hI.fits (by omega)) (with_right hI.right (by omega))
    refine ⟨l', d', 0, e2, e3, e4, ?_⟩
    have := vsetsession_ok hV (hI.ok hi) hI.right c k (by omega) h3 h4 (by rw [hQ]; decide) e5
    rw [e1] at this
    exact this
  · rw [if_neg h]
    refine ⟨l, d, 2, hI.mono (by omega), hq, hQ, (vsetsession_no hV c k hk hc63 h).mono ?_⟩
    rintro e w' ⟨rfl, rfl⟩
    exact VPost.stay hV 2
theorem vhol_step (hV : VAt w F FD v s g p l d r) (hI : VInv i l d r) (hi : i ≤ 900) (hq : Quiet d) (hQ : d.Q = []) (c : Int) (b : Bool) (hc63 : -9223372036854775808 ≤ c ∧ c < 9223372036854775808) :
    ∃ l' d' cd, VInv (i + 2) l' d' (holR r c b) ∧ Quiet d' ∧ d'.Q = [] ∧ Calls Tryz.prog 10 #[.pointer (some ⟨v, 0, none⟩), .int .i64 c, .bool b] w fun e w' => VPost w F FD v s g p (l', d', cd) (holR r c b) e w' := by
  unfold holR
  by_cases h : holOk r c
  · rw [if_pos h]
    obtain ⟨h1, h2, h3⟩ := h
    obtain ⟨c, rfl⟩ := Int.eq_ofNat_of_zero_le h1
    rw [Int.toNat_natCast] at h3 ⊢
    have hc8 : c < 8 := by omega
    by_cases hb : r.hol c = b
    · subst hb
      rw [with_same hI.fits.len hc8]
      refine ⟨l, d, 0, hI.mono (by omega), hq, hQ, (vsetholds_same hV c hc8 h3).mono ?_⟩
      rintro e w' ⟨rfl, rfl⟩
      exact VPost.stay hV 0
    · have hs40 : r.ses c < 1099511627776 := hI.fits.cl _ (List.mem_of_getElem? (Rec.get_cl hI.fits.len hc8))
      obtain ⟨l', d', e1, e2, e3, e4, e5⟩ := hI.put hi hq (by rw [hQ]; decide) (r.with_ c (r.ses c) b) (with_fits hI.fits hs40) (with_right hI.right h3)
      refine ⟨l', d', 0, e2, e3, e4, ?_⟩
      have := vsetholds_ok hV (hI.ok hi) hI.right c b hc8 h3 hb (by rw [hQ]; decide) e5
      rw [e1] at this
      exact this
  · rw [if_neg h]
    refine ⟨l, d, 2, hI.mono (by omega), hq, hQ, (vsetholds_no hV c b hc63 h).mono ?_⟩
    rintro e w' ⟨rfl, rfl⟩
    exact VPost.stay hV 2
end
/-- Sessions rise. -/
theorem ses_rises {r : Rec} (h : r.fits) (c : Int) (k : Nat) (j : Nat) (hj : j < 8) : (sesR r c k).ses j = r.ses j ∧ (sesR r c k).hol j = r.hol j ∨ (j : Int) = c ∧ r.ses j < (sesR r c k).ses j ∧ (sesR r c k).hol j = false := by
  unfold sesR
  by_cases h0 : sesOk r c k
  · rw [if_pos h0]
    obtain ⟨h1, h2, h3, h4⟩ := h0
    obtain ⟨c, rfl⟩ := Int.eq_ofNat_of_zero_le h1
    rw [Int.toNat_natCast] at *
    by_cases hc : c = j
    · subst hc
      have e : (r.with_ c k false).cl[c]? = some (k, false) := by
        show (r.cl.set c (k, false))[c]? = _
        rw [List.getElem?_set, if_pos rfl, if_pos (by rw [h.len]; exact hj)]
      refine .inr ⟨rfl, ?_, ?_⟩
      · unfold Rec.ses at *
        rw [e]
        exact h3
      · unfold Rec.hol
        rw [e]
        rfl
    · have e : (r.with_ c k false).cl[j]? = r.cl[j]? := by
        show (r.cl.set c (k, false))[j]? = _
        rw [List.getElem?_set, if_neg hc]
      refine .inl ⟨?_, ?_⟩
      · unfold Rec.ses
        rw [e]
      · unfold Rec.hol
        rw [e]
  · rw [if_neg h0]
    exact .inl ⟨rfl, rfl⟩
theorem hol_rises {r : Rec} (h : r.fits) (c : Int) (b : Bool) (j : Nat) (hj : j < 8) : (holR r c b).ses j = r.ses j ∧ ((holR r c b).hol j = r.hol j ∨ (j : Int) = c) := by
  unfold holR
  by_cases h0 : holOk r c
  · rw [if_pos h0]
    obtain ⟨h1, h2, h3⟩ := h0
    obtain ⟨c, rfl⟩ := Int.eq_ofNat_of_zero_le h1
    rw [Int.toNat_natCast] at *
    generalize hq : r.ses c = q at *
    by_cases hc : c = j
    · subst hc
      have e : (r.with_ c q b).cl[c]? = some (q, b) := by
        show (r.cl.set c (q, b))[c]? = _
        rw [List.getElem?_set, if_pos rfl, if_pos (by rw [h.len]; exact hj)]
      refine ⟨?_, .inr rfl⟩
      rw [hq]
      unfold Rec.ses
      rw [e]
      rfl
    · have e : (r.with_ c q b).cl[j]? = r.cl[j]? := by
        show (r.cl.set c (q, b))[j]? = _
        rw [List.getElem?_set, if_neg hc]
      refine ⟨?_, .inl ?_⟩
      · unfold Rec.ses
        rw [e]
      · unfold Rec.hol
        rw [e]
  · rw [if_neg h0]
    exact ⟨rfl, .inl rfl⟩
end Go.Proofs.YtipbaajdnnddgaaGreat

/- VaultRises: walked. -/
namespace Go.Proofs.YtipbaajdnnddgaaGreat
open Go.RowKit Go.Tn Go.Tn.Bt Go.Tn.Lp Go.Tn.Dk Go.Tn.Ino
/-- No session is less; who has a newer one holds nothing; of one client alone. -/
def Rises (r r' : Rec) (c : Int) : Prop := ∀ j, j < 8 → (r'.ses j = r.ses j ∧ r'.hol j = r.hol j) ∨ ((j : Int) = c ∧ r.ses j ≤ r'.ses j ∧ (r.ses j < r'.ses j → r'.hol j = false))
theorem rises_ses {r : Rec} (h : r.fits) (c : Int) (k : Nat) : Rises r (sesR r c k) c := fun j hj => by
  rcases ses_rises h c k j hj with h | ⟨h1, h2, h3⟩
  · exact .inl h
  · exact .inr ⟨h1, Nat.le_of_lt h2, fun _ => h3⟩
theorem rises_hol {r : Rec} (h : r.fits) (c : Int) (b : Bool) : Rises r (holR r c b) c := fun j hj => by
  obtain ⟨h1, h2 | h2⟩ := hol_rises h c b j hj
  · exact .inl ⟨h1, h2⟩
  · exact .inr ⟨h2, Nat.le_of_eq h1.symm, fun e => by omega⟩
theorem rec_cell {r : Rec} (h : r.cl.length = 8) {w : World} {b j : Nat} (hb : w.heap[b]? = some (.cells (recC r) 35 (0, 0))) (hj : j < 8) : Lies w b (1 + j * 2) #[.int .u64 (r.ses j : Nat), .bool (r.hol j)] := fun k hk => by
  have h0 := recL_c r (Rec.get_cl h hj) (o := 0) (by decide)
  have h1 := recL_c r (Rec.get_cl h hj) (o := 1) (by decide)
  match k, hk with
  | 0, _ => exact cell_of hb (by rw [show 1 + j * 2 + 0 = 1 + (j * 2 + 0) by omega]; exact h0)
  | 1, _ => exact cell_of hb (by rw [show 1 + j * 2 + 1 = 1 + (j * 2 + 1) by omega]; exact h1)
theorem eqC (w : World) (s t : Nat) (a b : Bool) : (Op.equalIn 10000 32 (.agg #[.int .u64 (s : Nat), .bool a]) (.agg #[.int .u64 (t : Nat), .bool b])).run Tryz.prog w = .ok (decide (s = t) && a == b) w := by
  rw [run_equalIn_agg w 9999 32 _ _ (by simp [Program.fieldsOf, Tryz.underlying32]) (by kernel_rfl)]
  have hc : Tryz.prog.cellsOf 30 = 1 := by kernel_rfl
  obtain ⟨i1, hi1⟩ := info_of_underlying (P := Tryz.prog) Tryz.underlying30
  have hsz := fun w => run_sizeOf (P := Tryz.prog) w hi1
  obtain ⟨i2, hi2⟩ := info_of_underlying (P := Tryz.prog) Tryz.underlying4
  have hsz2 := fun w => run_sizeOf (P := Tryz.prog) w hi2
  have hc2 : Tryz.prog.cellsOf 4 = 1 := by kernel_rfl
  simp [Program.fieldsOf, Tryz.underlying32, Op.eqFields, part, isAgg, run_underlying Tryz.underlying30, run_underlying Tryz.underlying4, run_equalIn_int w 9998 _ _ _ _ _ Tryz.underlying30, hsz, hc, hsz2, hc2, run_equalIn_bool' w 9998 _ _ _ Tryz.underlying4]
  by_cases h : s = t
  · cases a <;> cases b <;> simp [h]
  · have h' : ¬ ((s : Int) = (t : Int)) := by omega
    simp [h, h']
/-- A step of a tree that stores. -/
theorem t_skipS {P : Program} {ops : Array Oper} {Q : Exit → Act → World → Prop} {S : World → Prop} {i : Nat} {r : Tr} {a : Act} {w : World} {o : Oper} (ho : ops[i]? = some o) {w' : World} (hr : (execOp a.eval o).run P w = .ok .skip w') (hS : S w') (h : wpT P ops Q S r (a.put o.dst undef) w') : wpT P ops Q S (.one i 2 r) a w := by
  refine ⟨o, ho, ?_⟩
  simp only [Oper.wp, hr, Oper.upon]
  exact ⟨hS, h⟩
/-- Where it stands: a vault, its disk, all made since B. -/
structure RSt (w0 : World) (i : Nat) (v : Nat) (wi : World) : Prop where
  ex : ∃ s g p F FD l d r, VAt wi F FD v s g p l d r ∧ VInv (2 * i + 4) l d r ∧ Quiet d ∧ d.Q = [] ∧ (∀ b, (F b ∨ FD b) ∨ b = v → w0.heap.size ≤ b)
  w : Below w0.heap.size w0 wi
set_option maxRecDepth 20000 in
set_option maxHeartbeats 4000000 in
theorem rises_walk (w : World) (v : Value) (ds : List DoV) (hds : DosV w v ds) : Calls Tryz.prog 3 #[v] w fun e w' => e = .returned (.bool true) ∧ Below w.heap.size w w' := by
  obtain ⟨xs, hxs, hxL, hxD⟩ := hds
  have hxl : xs.length = ds.length := by rw [← hxs]; simp
  obtain ⟨ao, ca, rfl, x1, x2, x3⟩ := hxL
  rw [hxl] at x1 x3 ⊢
  unfold maxLen at x2
  have hb63 : (ds.length : Int) ≤ 9223372036854775807 := by omega
  have hnw := newd_any w 80 (by decide) (by decide)
  rw [show ((80 : Nat) : Int) = 80 from rfl] at hnw
  have HXS := Lib.hid hxs
  have HXD := Lib.hid hxD
  have HXL := Lib.hid hxl
  clear hxs hxD hxl
  go_enter Tryz.func3, Tryz.ntmps3
  go_wp2_with fail
  refine hnw.mono ?_
  rintro e w1 ⟨p, FD, rfl, hD, hb1, hF⟩
  obtain ⟨l1, d1, i1, q1, z1, hop⟩ := vnew_any hD
  have HB1 := Lib.hid hb1
  have HF := Lib.hid hF
  have I1 := Lib.hid i1
  have Q1 := Lib.hid q1
  have Z1 := Lib.hid z1
  clear hnw hD hb1 hF i1 q1 z1
  go_wp2_with fail
  refine hop.mono ?_
  rintro e w2 ⟨vb, s, g, F2, FD2, rfl, hV2, hm2, hF2, hFD2, hv2⟩
  have hb2 : Below w.heap.size w w2 := HB1.out.trans (hm2.below HB1.out.size fun x hx e => absurd (HF.out x e) (Nat.not_le.2 hx))
  have hFn2 : ∀ b, (F2 b ∨ FD2 b) ∨ b = vb → w.heap.size ≤ b := fun b hb => by
    have := HB1.out.size
    rcases hb with (hb | hb) | hb
    · have := hF2 b hb; omega
    · rcases hFD2 b hb with h | h
      · exact HF.out b h
      · omega
    · omega
  have HR2 : Hid (RSt w 0 vb w2) := Lib.hid ⟨⟨s, g, p, F2, FD2, l1, d1, _, hV2, I1.out, Q1.out, Z1.out, hFn2⟩, hb2⟩
  clear hop hV2 hm2 hF2 hFD2 hv2 hb2 hFn2 I1 Q1 Z1
  go_wp2_with fail
  go_loopw [7] (fun iv wi => ∃ i : Nat, i ≤ ds.length ∧ i ≤ 30 ∧ iv = .int .i64 i ∧ RSt w i vb wi) (fun iv _ => ds.length - (intOf iv).toNat)
  case atStart => exact ⟨0, Nat.zero_le _, Nat.zero_le _, rfl, HR2.out⟩
  case round =>
    obtain ⟨i, hi, hi30, rfl, hA⟩ := hrel
    by_cases hin : i < ds.length ∧ i < 30
    · obtain ⟨hil, hi4⟩ := hin
      have hd1 : decide (i < ds.length) = true := by simp [hil]
      have hd2 : decide ((i : Int) < 30) = true := by simp; omega
      obtain ⟨x, hx⟩ : ∃ x, xs[i]? = some x := ⟨_, List.getElem?_eq_getElem (by rw [HXL.out]; exact hil)⟩
      obtain ⟨b4, o4, rfl, hb4, hc4⟩ := x3 (by omega)
      obtain ⟨⟨s, g, p, F, FD, l, d, r, hV, hI, hq, hQ, hFn⟩, hbw⟩ := hA
      have hlx := (hc4 i x hx).below' hbw hb4
      have hdx := HXD.out x (List.mem_of_getElem? hx)
      obtain ⟨⟨kd, wh, nm, se, is, kp⟩, ⟨a5, n5, c5⟩⟩ := x
      have q0 : wr.cell? ⟨b4, o4 + i * 6, none⟩ = some (.int .i64 kd) := hlx 0 (by simp [enDoV])
      have q1 : wr.cell? ⟨b4, o4 + i * 6 + 1, none⟩ = some (.int .i64 wh) := hlx 1 (by simp [enDoV])
      have q3 : wr.cell? ⟨b4, o4 + i * 6 + 3, none⟩ = some (.int .u64 (se : Nat)) := hlx 3 (by simp [enDoV])
      have q4 : wr.cell? ⟨b4, o4 + i * 6 + 4, none⟩ = some (.bool is) := hlx 4 (by simp [enDoV])
      have hwh := hdx.who
      have hse := hdx.ses
      simp only at hwh hse
      have hbr : b4 < wr.heap.size := Nat.lt_of_lt_of_le hb4 hbw.size
      have hrc := vrecord_any hV
      have hag := aggR hI.fits.len
      have hone := recC_one r
      have hsz17 := recC_size hI.fits.len
      have HV := Lib.hid hV
      have HI := Lib.hid hI
      have HQt := Lib.hid hq
      have HQ := Lib.hid hQ
      have HFN := Lib.hid hFn
      have HBW := Lib.hid hbw
      have HB4 := Lib.hid hb4
      have HBR := Lib.hid hbr
      clear hx hc4 hlx hdx hV hI hq hQ hFn hbw HR2 hb4 hbr
      go_wp2_with fail
      refine hrc.mono ?_
      rintro e w3 ⟨rfl, hb3⟩
      have hb5 : Below wr.heap.size wr (w3.alloc (.cells (recC r) 35)) := hb3.alloc hb3.size _
      have hk5 : (w3.alloc (.cells (recC r) 35)).heap[w3.heap.size]? = some (.cells (recC r) 35 (0, 0)) := heap_alloc_at
      have hz5 : (w3.alloc (.cells (recC r) 35)).heap.size = w3.heap.size + 1 := by simp
      have cel : ∀ {o : Nat} {u : Value}, wr.cell? ⟨b4, o, none⟩ = some u → (w3.alloc (.cells (recC r) 35)).cell? ⟨b4, o, none⟩ = some u := fun hc => (hb5.cell (p := ⟨b4, _, none⟩) HBR.out).trans hc
      have p0 := cel q0
      have p1 := cel q1
      have p3 := cel q3
      have p4 := cel q4
      have HB5 := Lib.hid hb5
      have HK5 := Lib.hid hk5
      have HZ5 := Lib.hid hz5
      have HRB : Hid (wr.heap.size ≤ w3.heap.size) := Lib.hid hb3.size
      clear hrc hb3 hb5 hk5 hz5 cel q0 q1 q3 q4
      go_upto_region 9 with (first
        | ((with_reducible refine wpList_storeA_new hag ?_ hone ?_ ?_ ?_); (rw [hsz17]; rfl); rfl; rfl; go_frame)
        | fail)
      generalize hrb : w3.heap.size = rb at *
      generalize w3.alloc (.cells (recC r) 35) = w5 at *
      have HV5 := Lib.hid ((HV.out.below HB5.out).below (Below.refl _ _).drew)
      clear hrb hag hone hsz17
      by_cases hk0 : kd = 0
      case' pos =>
        subst hk0
        obtain ⟨l', d', cd, i6, q6, z6, hcl⟩ := vses_step HV5.out HI.out (by omega) HQt.out HQ.out wh se hse hwh
        have hri := rises_ses HI.out.fits wh se
        generalize hr' : sesR r wh se = r' at i6 hcl hri
        clear hr'
        have I6 := Lib.hid i6
        have Q6 := Lib.hid q6
        have Z6 := Lib.hid z6
        have HRI := Lib.hid hri
        clear i6 q6 z6 hri
        go_upto_region 10 with fail
        have hS : w5.drew.cell? ⟨b4, o4 + i * 6 + 1, none⟩ = some (.int .i64 wh) ∧ w5.drew.cell? ⟨b4, o4 + i * 6 + 3, none⟩ = some (.int .u64 (se : Nat)) := ⟨p1, p3⟩
        refine wp_region_x (fun w' => w'.cell? ⟨b4, o4 + i * 6 + 1, none⟩ = some (.int .i64 wh) ∧ w'.cell? ⟨b4, o4 + i * 6 + 3, none⟩ = some (.int .u64 (se : Nat))) [(0, 1), (1, 1), (2, 1), (3, 1), (4, 1), (5, 0), (6, 1), (7, 1), (8, 1), (9, 1), (10, 0), (11, 3)] (by kernel_rfl) (by kernel_rfl) (by intro d v c a w h; cases d <;> exact h) ?_
        iterate 5 (refine x_take rfl (fun K hK => ?_); go_simp; refine hK _ ?_; clear hK K)
        refine x_read rfl hS (fun w' h => exec_load1 ⟨⟨_, Tryz.underlying3, rfl⟩⟩ rfl h.1) ?_
        iterate 4 (refine x_take rfl (fun K hK => ?_); go_simp; refine hK _ ?_; clear hK K)
        refine x_read rfl hS (fun w' h => exec_load1 ⟨⟨_, Tryz.underlying30, rfl⟩⟩ rfl h.2) ?_
        refine x_exec' rfl (fun K hK => ?_)
        go_simp
        refine hcl.mono ?_
        rintro e w6 ⟨rfl, F6, FD6, hV6, hm6, h16, h26⟩
        refine hK _ _ ?_
        clear hK K hcl hS
        refine x_nil ?_
        have hV6 : VAt w6 F6 FD6 vb s g p l' d' r' := hV6
        have hwz : w.heap.size ≤ wr.heap.size := HBW.out.size
        have hz5 : w5.heap.size = rb + 1 := HZ5.out
        have hrbw : wr.heap.size ≤ rb := HRB.out
        have hlow : ∀ b, (F b ∨ FD b) ∨ b = vb → b < wr.heap.size := fun b hb => by
          rcases hb with (hb | hb) | hb
          · exact HV.out.fs.log.lt b hb
          · exact HV.out.fs.disk.lt b hb
          · rw [hb]; exact lt_of_block HV.out.blk
        have hk6 := hm6.heap (show w5.drew.heap[rb]? = _ from HK5.out) (fun h => by have := hlow rb h; omega)
        have c6 := cell_mod (show w5.drew.cell? ⟨b4, o4 + i * 6 + 1, none⟩ = _ from p1) hm6 (fun h => by have := HFN.out b4 h; have := HB4.out; omega)
        have hb6 : Below w.heap.size w w6 := HBW.out.trans ((HB5.out.mono hwz).trans ((Below.refl _ w5).drew.trans (hm6.below (show w.heap.size ≤ w5.heap.size by omega) fun x hx h => by have := HFN.out x h; omega)))
        have hFn6 : ∀ b, (F6 b ∨ FD6 b) ∨ b = vb → w.heap.size ≤ b := fun b hb => by
          rcases hb with (hb | hb) | hb
          · rcases h16 b hb with h | h
            · exact HFN.out b (.inl (.inl h))
            · have h : w5.heap.size ≤ b := h
              omega
          · rcases h26 b hb with h | h
            · exact HFN.out b (.inl (.inr h))
            · have h : w5.heap.size ≤ b := h
              omega
          · exact HFN.out b (.inr hb)
        have hrc := vrecord_any hV6
        have hagn := aggR I6.out.fits.len
        have honen := recC_one r'
        have hszn := recC_size I6.out.fits.len
        have HV6 := Lib.hid hV6
        have HK6 := Lib.hid hk6
        have HC6 := Lib.hid c6
        have HB6 := Lib.hid hb6
        have HFN6 := Lib.hid hFn6
        clear hV6 hwz hz5 hrbw hlow hk6 c6 hb6 hFn6 hm6 h16 h26 p0 p1 p3 p4 HV HV5 HQt HQ HFN HBW HB5 HK5 HZ5 HRB HB4
        go_wp2_with fail
        refine hrc.mono ?_
        rintro e w7 ⟨rfl, hb7⟩
        have hb8 : Below w6.heap.size w6 (w7.alloc (.cells (recC r') 35)) := hb7.alloc hb7.size _
        have hk8 : (w7.alloc (.cells (recC r') 35)).heap[w7.heap.size]? = some (.cells (recC r') 35 (0, 0)) := heap_alloc_at
        have hr8 := (hb8.block rb (lt_of_block HK6.out)).trans HK6.out
        have c8 := (hb8.cell (p := ⟨b4, _, none⟩) (World.block_lt_of_cell? w6 _ HC6.out)).trans HC6.out
        have HV8 := Lib.hid (HV6.out.below hb8)
        have HB8 := Lib.hid (HB6.out.trans (hb8.mono HB6.out.size))
        have HK8 := Lib.hid hk8
        have HR8 := Lib.hid hr8
        have HC8 := Lib.hid c8
        clear hrc hb7 hb8 hk8 hr8 c8 HV6 HK6 HC6 HB6
        go_upto_region 13 with (first
          | ((with_reducible refine wpList_storeA_new hagn ?_ honen ?_ ?_ ?_); (rw [hszn]; rfl); rfl; rfl; go_frame)
          | fail)
        generalize w7.heap.size = nb at *
        generalize w7.alloc (.cells (recC r') 35) = w8 at *
      case' neg =>
        have e0 : (kd == 0) = false := by simp [hk0]
        obtain ⟨l', d', cd, i6, q6, z6, hcl⟩ := vhol_step HV5.out HI.out (by omega) HQt.out HQ.out wh is hwh
        have hri := rises_hol HI.out.fits wh is
        generalize hr' : holR r wh is = r' at i6 hcl hri
        clear hr'
        have I6 := Lib.hid i6
        have Q6 := Lib.hid q6
        have Z6 := Lib.hid z6
        have HRI := Lib.hid hri
        clear i6 q6 z6 hri
        go_upto_region 11 with fail
        have hS : w5.drew.cell? ⟨b4, o4 + i * 6 + 1, none⟩ = some (.int .i64 wh) ∧ w5.drew.cell? ⟨b4, o4 + i * 6 + 4, none⟩ = some (.bool is) := ⟨p1, p4⟩
        refine wp_region_x (fun w' => w'.cell? ⟨b4, o4 + i * 6 + 1, none⟩ = some (.int .i64 wh) ∧ w'.cell? ⟨b4, o4 + i * 6 + 4, none⟩ = some (.bool is)) [(0, 1), (1, 1), (2, 1), (3, 1), (4, 1), (5, 0), (6, 1), (7, 1), (8, 1), (9, 1), (10, 0), (11, 3)] (by kernel_rfl) (by kernel_rfl) (by intro d v c a w h; cases d <;> exact h) ?_
        iterate 5 (refine x_take rfl (fun K hK => ?_); go_simp; refine hK _ ?_; clear hK K)
        refine x_read rfl hS (fun w' h => exec_load1 ⟨⟨_, Tryz.underlying3, rfl⟩⟩ rfl h.1) ?_
        iterate 4 (refine x_take rfl (fun K hK => ?_); go_simp; refine hK _ ?_; clear hK K)
        refine x_read rfl hS (fun w' h => exec_load1 ⟨⟨_, Tryz.underlying4, rfl⟩⟩ rfl h.2) ?_
        refine x_exec' rfl (fun K hK => ?_)
        go_simp
        refine hcl.mono ?_
        rintro e w6 ⟨rfl, F6, FD6, hV6, hm6, h16, h26⟩
        refine hK _ _ ?_
        clear hK K hcl hS
        refine x_nil ?_
        have hV6 : VAt w6 F6 FD6 vb s g p l' d' r' := hV6
        have hwz : w.heap.size ≤ wr.heap.size := HBW.out.size
        have hz5 : w5.heap.size = rb + 1 := HZ5.out
        have hrbw : wr.heap.size ≤ rb := HRB.out
        have hlow : ∀ b, (F b ∨ FD b) ∨ b = vb → b < wr.heap.size := fun b hb => by
          rcases hb with (hb | hb) | hb
          · exact HV.out.fs.log.lt b hb
          · exact HV.out.fs.disk.lt b hb
          · rw [hb]; exact lt_of_block HV.out.blk
        have hk6 := hm6.heap (show w5.drew.heap[rb]? = _ from HK5.out) (fun h => by have := hlow rb h; omega)
        have c6 := cell_mod (show w5.drew.cell? ⟨b4, o4 + i * 6 + 1, none⟩ = _ from p1) hm6 (fun h => by have := HFN.out b4 h; have := HB4.out; omega)
        have hb6 : Below w.heap.size w w6 := HBW.out.trans ((HB5.out.mono hwz).trans ((Below.refl _ w5).drew.trans (hm6.below (show w.heap.size ≤ w5.heap.size by omega) fun x hx h => by have := HFN.out x h; omega)))
        have hFn6 : ∀ b, (F6 b ∨ FD6 b) ∨ b = vb → w.heap.size ≤ b := fun b hb => by
          rcases hb with (hb | hb) | hb
          · rcases h16 b hb with h | h
            · exact HFN.out b (.inl (.inl h))
            · have h : w5.heap.size ≤ b := h
              omega
          · rcases h26 b hb with h | h
            · exact HFN.out b (.inl (.inr h))
            · have h : w5.heap.size ≤ b := h
              omega
          · exact HFN.out b (.inr hb)
        have hrc := vrecord_any hV6
        have hagn := aggR I6.out.fits.len
        have honen := recC_one r'
        have hszn := recC_size I6.out.fits.len
        have HV6 := Lib.hid hV6
        have HK6 := Lib.hid hk6
        have HC6 := Lib.hid c6
        have HB6 := Lib.hid hb6
        have HFN6 := Lib.hid hFn6
        clear hV6 hwz hz5 hrbw hlow hk6 c6 hb6 hFn6 hm6 h16 h26 p0 p1 p3 p4 HV HV5 HQt HQ HFN HBW HB5 HK5 HZ5 HRB HB4
        go_wp2_with fail
        refine hrc.mono ?_
        rintro e w7 ⟨rfl, hb7⟩
        have hb8 : Below w6.heap.size w6 (w7.alloc (.cells (recC r') 35)) := hb7.alloc hb7.size _
        have hk8 : (w7.alloc (.cells (recC r') 35)).heap[w7.heap.size]? = some (.cells (recC r') 35 (0, 0)) := heap_alloc_at
        have hr8 := (hb8.block rb (lt_of_block HK6.out)).trans HK6.out
        have c8 := (hb8.cell (p := ⟨b4, _, none⟩) (World.block_lt_of_cell? w6 _ HC6.out)).trans HC6.out
        have HV8 := Lib.hid (HV6.out.below hb8)
        have HB8 := Lib.hid (HB6.out.trans (hb8.mono HB6.out.size))
        have HK8 := Lib.hid hk8
        have HR8 := Lib.hid hr8
        have HC8 := Lib.hid c8
        clear hrc hb7 hb8 hk8 hr8 c8 HV6 HK6 HC6 HB6
        go_upto_region 13 with (first
          | ((with_reducible refine wpList_storeA_new hagn ?_ honen ?_ ?_ ?_); (rw [hszn]; rfl); rfl; rfl; go_frame)
          | fail)
        generalize w7.heap.size = nb at *
        generalize w7.alloc (.cells (recC r') 35) = w8 at *
      all_goals
        clear hagn honen hszn
        go_wp2_with fail
        go_loopw [10] (fun jv wi => ∃ j : Nat, j ≤ 8 ∧ jv = .int .i64 j ∧ Below w8.heap.size w8 wi) (fun jv _ => 8 - (intOf jv).toNat)
        case atStart => exact ⟨0, Nat.zero_le _, rfl, Below.refl _ _⟩
        case round =>
          obtain ⟨j, hj, rfl, hbj⟩ := hrel
          by_cases hj8 : j < 8
          · have hj8' : (j : Int) < 8 := by omega
            have hA := rec_cell HI.out.fits.len ((hbj.block rb (lt_of_block HR8.out)).trans HR8.out) hj8
            have hB := rec_cell I6.out.fits.len ((hbj.block nb (lt_of_block HK8.out)).trans HK8.out) hj8
            have hC := (hbj.cell (p := ⟨b4, _, none⟩) (World.block_lt_of_cell? w8 _ HC8.out)).trans HC8.out
            have hdj := HRI.out j hj8
            have HBJ := Lib.hid hbj
            generalize r.ses j = sa at *
            generalize r'.ses j = sb at *
            generalize r.hol j = ha at *
            generalize r'.hol j = hb at *
            have HDJ := Lib.hid hdj
            have HLA := Lib.hid hA
            have HLB := Lib.hid hB
            have HC0 := Lib.hid hC
            clear hdj hA hB hC hbj
            go_upto_region 16 with fail
            have hS : Lies wr.drew rb (1 + j * 2) #[.int .u64 (sa : Nat), .bool ha] ∧ Lies wr.drew nb (1 + j * 2) #[.int .u64 (sb : Nat), .bool hb] := ⟨HLA.out, HLB.out⟩
            have hag2 : ∀ (q : Nat) (z : Bool), AggT Tryz.prog 32 (#[.int .u64 (q : Nat), .bool z] : Array Value).size := fun _ _ => aggC1
            have hon2 : ∀ (q : Nat) (z : Bool), (#[.int .u64 (q : Nat), .bool z] : Array Value).all (·.oneCell') = true := fun _ _ => by simp [Value.oneCell']
            go_cut [11, 12] (fun va vb wx => ∃ ba bb, va = .pointer (some ⟨ba, 0, none⟩) ∧ vb = .pointer (some ⟨bb, 0, none⟩) ∧ wx.heap[ba]? = some (.cells #[.int .u64 (sa : Nat), .bool ha] 32 (0, 0)) ∧ wx.heap[bb]? = some (.cells #[.int .u64 (sb : Nat), .bool hb] 32 (0, 0)) ∧ Below wr.heap.size wr wx)
            case first =>
              refine wp_region_t (fun w' => Lies w' rb (1 + j * 2) #[.int .u64 (sa : Nat), .bool ha] ∧ Lies w' nb (1 + j * 2) #[.int .u64 (sb : Nat), .bool hb]) [(0, 1), (1, 1), (2, 1), (3, 0), (4, 1), (5, 1), (6, 1), (7, 0), (8, 2), (9, 2), (10, 2), (11, 3)]
                (.one 0 1 (.one 1 1 (.one 2 1 (.one 3 0 (.one 4 1 (.one 5 1 (.one 6 1 (.one 7 0 (.two 8 9 (.one 9 2 (.one 10 2 (.one 11 3 .nil))) (.one 8 2 (.one 10 2 (.one 11 3 .nil))))))))))))
                (by kernel_rfl) (by kernel_rfl) (by intro d v c a w h; cases d <;> exact h) ?_
              iterate 3 (refine t_take rfl (fun K hK => ?_); go_simp; refine hK _ ?_; clear hK K)
              refine t_read rfl hS (fun w' h => exec_loadA (hag2 _ _) rfl h.1) ?_
              iterate 3 (refine t_take rfl (fun K hK => ?_); go_simp; refine hK _ ?_; clear hK K)
              refine t_read rfl hS (fun w' h => exec_loadA (hag2 _ _) rfl h.2) ?_
              have hW : Below wr.heap.size wr wr.drew := (Below.refl _ _).drew
              have hlr : rb < wr.heap.size := by
                have := World.block_lt_of_cell? wr _ (HLA.out 0 (Nat.zero_lt_succ _))
                exact this
              have hln : nb < wr.heap.size := by
                have := World.block_lt_of_cell? wr _ (HLB.out 0 (Nat.zero_lt_succ _))
                exact this
              have hmv : ∀ (wa wb : World), (Lies wa rb (1 + j * 2) #[.int .u64 (sa : Nat), .bool ha] ∧ Lies wa nb (1 + j * 2) #[.int .u64 (sb : Nat), .bool hb]) → Below wr.heap.size wa wb → Lies wb rb (1 + j * 2) #[.int .u64 (sa : Nat), .bool ha] ∧ Lies wb nb (1 + j * 2) #[.int .u64 (sb : Nat), .bool hb] := fun _ _ h hb =>
                ⟨fun k hk => (hb.cell (p := ⟨rb, _, none⟩) hlr).trans (h.1 k hk), fun k hk => (hb.cell (p := ⟨nb, _, none⟩) hln).trans (h.2 k hk)⟩
              generalize wr.drew = wd at *
              have hsz := hW.size
              have HMV := Lib.hid hmv
              clear hmv
              refine t_two rfl rfl (fun K hK => ?_) (fun K hK => ?_)
              · go_simp
                have hb1 : Below wr.heap.size wd (wd.alloc (.cells #[.int .u64 0, .bool false] 32)) := (Below.refl _ _).alloc hsz _
                have hk1 : (wd.alloc (.cells #[.int .u64 0, .bool false] 32)).heap[wd.heap.size]? = some (.cells #[.int .u64 0, .bool false] 32 (0, 0)) := heap_alloc_at
                have hz1 : (wd.alloc (.cells #[.int .u64 0, .bool false] 32)).heap.size = wd.heap.size + 1 := by simp
                have hS1 := HMV.out _ _ hS hb1
                generalize wd.alloc (.cells #[.int .u64 0, .bool false] 32) = wa at *
                refine hK _ _ hS1 ?_
                clear hK K
                refine t_show' rfl (fun K hK => ?_)
                go_simp
                have hb2 : Below wr.heap.size wa (wa.alloc (.cells #[.int .u64 0, .bool false] 32)) := (Below.refl _ _).alloc (by omega) _
                have hk2 : (wa.alloc (.cells #[.int .u64 0, .bool false] 32)).heap[wa.heap.size]? = some (.cells #[.int .u64 0, .bool false] 32 (0, 0)) := heap_alloc_at
                have hk12 : (wa.alloc (.cells #[.int .u64 0, .bool false] 32)).heap[wd.heap.size]? = some (.cells #[.int .u64 0, .bool false] 32 (0, 0)) := heap_alloc_of hk1
                have hS2 := HMV.out _ _ hS1 hb2
                rw [hz1] at hk2
                generalize wa.alloc (.cells #[.int .u64 0, .bool false] 32) = wb at *
                refine hK _ _ hS2 ?_
                clear hK K
                obtain ⟨w9, hr9, hh9, hm9⟩ := exec_storeB (ρ := fun _ => undef) (ty := 0) (pos := "") (after := #[]) (x := .tmp 0) (y := .tmp 0) (hag2 sa ha) hk12 rfl (hon2 _ _)
                have hb9 : Below wr.heap.size wb w9 := hm9.below (by have := hb2.size; have := hb1.size; omega) fun x hx e => by omega
                refine t_skipS rfl (hr9 _ _ _ _ _ _ _ _ rfl rfl) (HMV.out _ _ hS2 hb9) ?_
                obtain ⟨w10, hr10, hh10, hm10⟩ := exec_storeB (ρ := fun _ => undef) (ty := 0) (pos := "") (after := #[]) (x := .tmp 0) (y := .tmp 0) (hag2 sb hb) (hm9.heap hk2 (by omega)) rfl (hon2 _ _)
                refine t_skip rfl (hr10 _ _ _ _ _ _ _ _ rfl rfl) ?_
                refine t_nil ?_
                have hk10 := hm10.heap hh9 (by omega)
                have hb10 : Below wr.heap.size wr w10 := hW.trans (hb1.trans (hb2.trans (hb9.trans (hm10.below (by have := hb2.size; have := hb1.size; have := hb9.size; omega) fun x hx e => by omega))))
                go_wp2
                go_meet
                case rel => exact ⟨_, _, rfl, rfl, hk10, hh10, hb10⟩
              · go_simp
                have hb1 : Below wr.heap.size wd (wd.alloc (.cells #[.int .u64 0, .bool false] 32)) := (Below.refl _ _).alloc hsz _
                have hk1 : (wd.alloc (.cells #[.int .u64 0, .bool false] 32)).heap[wd.heap.size]? = some (.cells #[.int .u64 0, .bool false] 32 (0, 0)) := heap_alloc_at
                have hz1 : (wd.alloc (.cells #[.int .u64 0, .bool false] 32)).heap.size = wd.heap.size + 1 := by simp
                have hS1 := HMV.out _ _ hS hb1
                generalize wd.alloc (.cells #[.int .u64 0, .bool false] 32) = wa at *
                refine hK _ _ hS1 ?_
                clear hK K
                refine t_show' rfl (fun K hK => ?_)
                go_simp
                have hb2 : Below wr.heap.size wa (wa.alloc (.cells #[.int .u64 0, .bool false] 32)) := (Below.refl _ _).alloc (by omega) _
                have hk2 : (wa.alloc (.cells #[.int .u64 0, .bool false] 32)).heap[wa.heap.size]? = some (.cells #[.int .u64 0, .bool false] 32 (0, 0)) := heap_alloc_at
                have hk12 : (wa.alloc (.cells #[.int .u64 0, .bool false] 32)).heap[wd.heap.size]? = some (.cells #[.int .u64 0, .bool false] 32 (0, 0)) := heap_alloc_of hk1
                have hS2 := HMV.out _ _ hS1 hb2
                rw [hz1] at hk2
                generalize wa.alloc (.cells #[.int .u64 0, .bool false] 32) = wb at *
                refine hK _ _ hS2 ?_
                clear hK K
                obtain ⟨w9, hr9, hh9, hm9⟩ := exec_storeB (ρ := fun _ => undef) (ty := 0) (pos := "") (after := #[]) (x := .tmp 0) (y := .tmp 0) (hag2 sa ha) hk2 rfl (hon2 _ _)
                have hb9 : Below wr.heap.size wb w9 := hm9.below (by have := hb2.size; have := hb1.size; omega) fun x hx e => by omega
                refine t_skipS rfl (hr9 _ _ _ _ _ _ _ _ rfl rfl) (HMV.out _ _ hS2 hb9) ?_
                obtain ⟨w10, hr10, hh10, hm10⟩ := exec_storeB (ρ := fun _ => undef) (ty := 0) (pos := "") (after := #[]) (x := .tmp 0) (y := .tmp 0) (hag2 sb hb) (hm9.heap hk12 (by omega)) rfl (hon2 _ _)
                refine t_skip rfl (hr10 _ _ _ _ _ _ _ _ rfl rfl) ?_
                refine t_nil ?_
                have hk10 := hm10.heap hh9 (by omega)
                have hb10 : Below wr.heap.size wr w10 := hW.trans (hb1.trans (hb2.trans (hb9.trans (hm10.below (by have := hb2.size; have := hb1.size; have := hb9.size; omega) fun x hx e => by omega))))
                go_wp2
                go_meet
                case rel => exact ⟨_, _, rfl, rfl, hk10, hh10, hb10⟩
            case rest =>
              obtain ⟨ba, bb, rfl, rfl, hka, hkb, hbw⟩ := hcut
              have ca0 : wc.cell? ⟨ba, 0, none⟩ = some (.int .u64 (sa : Nat)) := cell_of hka rfl
              have cb0 : wc.cell? ⟨bb, 0, none⟩ = some (.int .u64 (sb : Nat)) := cell_of hkb rfl
              have cb1 : wc.cell? ⟨bb, 1, none⟩ = some (.bool hb) := cell_of hkb rfl
              have hLa := lies_of hka
              have hLb := lies_of hkb
              have hgt : Tryz.prog.eqGuardType Tryz.prog.depth 32 = false := by kernel_rfl
              have hcw := (hbw.cell (p := ⟨b4, _, none⟩) (World.block_lt_of_cell? wr _ HC0.out)).trans HC0.out
              have HBW := Lib.hid (HBJ.out.trans (hbw.mono HBJ.out.size))
              have hcase : (sa = sb ∧ ha = hb) ∨ ((j : Int) = wh ∧ ((sa < sb ∧ hb = false) ∨ (sa = sb ∧ ha ≠ hb))) := by
                rcases HDJ.out with ⟨h1, h2⟩ | ⟨h1, h2, h3⟩
                · exact .inl ⟨h1.symm, h2.symm⟩
                · by_cases hlt : sa < sb
                  · exact .inr ⟨h1, .inl ⟨hlt, h3 hlt⟩⟩
                  · by_cases hab : ha = hb
                    · exact .inl ⟨by omega, hab⟩
                    · exact .inr ⟨h1, .inr ⟨by omega, hab⟩⟩
              clear hka hkb hbw hS
              rcases hcase with ⟨rfl, rfl⟩ | ⟨rfl, ⟨hlt, rfl⟩ | ⟨rfl, hne⟩⟩
              · have heq : ∀ w, (Op.equalIn 10000 32 (.agg #[.int .u64 (sa : Nat), .bool ha]) (.agg #[.int .u64 (sa : Nat), .bool ha])).run Tryz.prog w = .ok true w := fun w => (eqC w sa sa ha ha).trans (by simp)
                go_wp2_with (first
                  | ((with_reducible refine wpList_execW (exec_loadA (hag2 _ _) ?_ hLa) ?_ ?_); rfl; rfl; go_frame)
                  | ((with_reducible refine wpList_execW (exec_loadA (hag2 _ _) ?_ hLb) ?_ ?_); rfl; rfl; go_frame)
                  | ((with_reducible refine wpList_execW (exec_neqS hgt heq ?_ ?_ _) ?_ ?_); rfl; rfl; rfl; go_frame)
                  | fail)
                go_roundw
                case rel => exact ⟨j + 1, by omega, by go_num, HBW.out⟩
                case measure => simp [intOf]; omega
              · have heq : ∀ w, (Op.equalIn 10000 32 (.agg #[.int .u64 (sa : Nat), .bool ha]) (.agg #[.int .u64 (sb : Nat), .bool false])).run Tryz.prog w = .ok false w := fun w => (eqC w sa sb ha false).trans (by simp; omega)
                have hd3 : decide (sb < sa) = false := decide_eq_false (by omega)
                have hd4 : decide (sa < sb) = true := decide_eq_true hlt
                go_wp2_with (first
                  | ((with_reducible refine wpList_execW (exec_loadA (hag2 _ _) ?_ hLa) ?_ ?_); rfl; rfl; go_frame)
                  | ((with_reducible refine wpList_execW (exec_loadA (hag2 _ _) ?_ hLb) ?_ ?_); rfl; rfl; go_frame)
                  | ((with_reducible refine wpList_execW (exec_neqS hgt heq ?_ ?_ _) ?_ ?_); rfl; rfl; rfl; go_frame)
                  | fail)
                go_roundw
                case rel => exact ⟨j + 1, by omega, by go_num, HBW.out⟩
                case measure => simp [intOf]; omega
              · have heq : ∀ w, (Op.equalIn 10000 32 (.agg #[.int .u64 (sa : Nat), .bool ha]) (.agg #[.int .u64 (sa : Nat), .bool hb])).run Tryz.prog w = .ok false w := fun w => (eqC w sa sa ha hb).trans (by simp [hne])
                go_wp2_with (first
                  | ((with_reducible refine wpList_execW (exec_loadA (hag2 _ _) ?_ hLa) ?_ ?_); rfl; rfl; go_frame)
                  | ((with_reducible refine wpList_execW (exec_loadA (hag2 _ _) ?_ hLb) ?_ ?_); rfl; rfl; go_frame)
                  | ((with_reducible refine wpList_execW (exec_neqS hgt heq ?_ ?_ _) ?_ ?_); rfl; rfl; rfl; go_frame)
                  | fail)
                go_roundw
                case rel => exact ⟨j + 1, by omega, by go_num, HBW.out⟩
                case measure => simp [intOf]; omega
          · obtain rfl : j = 8 := by omega
            have HBE := Lib.hid (HB8.out.trans (hbj.mono HB8.out.size))
            have HVE := Lib.hid (HV8.out.below hbj)
            clear hbj
            go_wp2
            go_roundw
            case rel => exact ⟨i + 1, by omega, by omega, by go_num, ⟨s, g, p, F6, FD6, l', d', r', HVE.out, by have := I6.out; exact this.mono (by omega), Q6.out, Z6.out, HFN6.out⟩, HBE.out⟩
            case measure => simp [intOf]; omega
    · have HB := Lib.hid hA.w
      clear hA HR2
      by_cases hil : i < ds.length
      · have hd1 : decide (i < ds.length) = true := by simp [hil]
        have hd2 : decide ((i : Int) < 30) = false := by simp; omega
        go_wp2_with (first
          | (go_at_call 11; refine (lives_any _).mono ?_; rintro e w8 ⟨rfl, hb8⟩; have HB8 := Lib.hid (HB.out.trans (hb8.mono HB.out.size)); clear hb8)
          | fail)
        go_ret
        exact ⟨rfl, HB8.out⟩
      · have hd1 : decide (i < ds.length) = false := by simp; omega
        go_wp2_with (first
          | (go_at_call 11; refine (lives_any _).mono ?_; rintro e w8 ⟨rfl, hb8⟩; have HB8 := Lib.hid (HB.out.trans (hb8.mono HB.out.size)); clear hb8)
          | fail)
        go_ret
        exact ⟨rfl, HB8.out⟩
end Go.Proofs.YtipbaajdnnddgaaGreat

/- Proved: VaultRises returns true and its arguments read as they did. No condition: of all calls. -/
namespace Go.Proofs.YtipbaajdnnddgaaGreat
open Go.ChangeShapes Go.WideShapes Go.ChangeAt Go.RowKit Go.Tn Go.Joins




set_option maxRecDepth 100000 in
theorem rises_lifted (os : Os) (started : os.Started) (H : Type) (enc : TypeId × Value → H) :
    ReturnsInHanded {} Tryz.checked os 3 .any (Rows.vaultRisesSpec.pre6 enc Tryz.prog Tryz.f3 Rows.vaultRisesRow.domain false) (Rows.vaultRisesSpec.post enc Tryz.prog Tryz.f3 false true false false) := by
  refine returnsInHanded_of_change (C := Tryz.checked) Tryz.own started (by kernel_rfl) Tryz.func3
    (ChangeSpec.witness6 (enc := enc) (C := Tryz.checked) false ⟨#[], #[.slice none 0 0], []⟩ 8 (by kernel_rfl) (by kernel_rfl) (by kernel_rfl) (by kernel_rfl)) ?_
  intro W base args ds gs before hval0 hW hcnd _
  have hval : ∀ (j : Nat) t v, Tryz.f3.params[j]? = some t → args[j]? = some v → Value.okWide Tryz.prog W .any base t v := hval0
  have hW' := hW
  obtain ⟨p, q, hA0, hV, rfl, hfz, hnd⟩ := hW
  have hA : DataW.TrodAll enc Tryz.prog W 0 (fun _ => true) true Tryz.f3.params.toList args.toList ds p := hA0
  rw [Tryz.params3] at hA hval
  obtain ⟨v0, vs0, d0, ds0, p0, q0, hargs, rfl, rfl, h0, r0⟩ := trodAll_cons hA
  obtain ⟨rfl, rfl, rfl⟩ := trodAll_nil r0
  obtain rfl : args = #[v0] := by cases args; simp_all
  obtain ⟨rfl, rfl⟩ := trodVars_none hV
  obtain ⟨a0, len0, cap0, rfl⟩ := okWide_slice Tryz.underlying22 (hval 0 22 v0 rfl rfl)
  have k0 := h0
  have lt0 : ∀ x ∈ p0, x.block < W.heap.size := by obtain ⟨m, hm⟩ := k0; exact DataW.trod_lt m _ _ _ hm
  obtain ⟨es, hes⟩ := dos_of h0
  clear hA0 hval0
  refine (rises_walk W _ es hes).mono fun e W' ⟨he, bel⟩ => ?_
  subst he
  exact ⟨_, rfl, _, _, _, [], _, [], hW', trodAll_mk1 (shut_bool Tryz.underlying4 _), (trodAll_cons_mk (Below.trod Tryz.laidOut (by kernel_rfl) (of_decide_eq_true (by kernel_rfl)) k0 bel lt0) trodAll_mk0), rfl, bel.frame _, fun h => by cases h⟩

theorem rises_holds : Rows.VaultRisesSaid :=
  OpenClaim.holds_of_wide 3 Tryz.f3 rfl rfl rfl rfl rfl rfl rfl ⟨rfl, rfl, rfl, rfl, rfl⟩ rfl rfl rfl rfl rfl (by kernel_rfl) Tryz.func3 (by kernel_rfl)
    (of_decide_eq_true (by kernel_rfl)) (by unfold Func.isWrapper; first | (rw [if_pos (by decide +kernel)]; kernel_rfl) | (rw [if_neg (by decide +kernel)]; exact ⟨rfl, rfl⟩))
    (fun os started H enc _ => rises_lifted os started H enc)

end Go.Proofs.YtipbaajdnnddgaaGreat
