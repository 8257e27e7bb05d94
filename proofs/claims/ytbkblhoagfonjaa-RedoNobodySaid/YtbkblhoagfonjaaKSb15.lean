/- Write: where nothing is written. -/
import Derived.Test.YtbkblhoagfonjaaKSb10
import Derived.Test.YtbkblhoagfonjaaKSb14
/- A record is cut into pieces. -/
namespace Go.Proofs.Ytbkblhoagfonjaa
open Go.RowKit Go.Tn Go.Tn.Bt Go.Tn.Lp
/-- Pieces in a slice of one's own, their data in memory of their own. -/
def PcsO (B : Nat) (w : World) (v : Value) (ps : List Pc) : Prop := ∃ xs : List (Pc × Sv), xs.map (·.1) = ps ∧ LOut enPc 5 78 B w v xs ∧
  ∀ x ∈ xs, LSl en8 1 w (sv x.2) x.1.da ∧ ∀ r, (sv x.2).ownBlock = some r → B ≤ r ∧ r < w.heap.size ∧ v.ownBlock ≠ some r
theorem cutN_le (bs : List Nat) : cutN bs ≤ bs.length + 1 := by unfold cutN; omega
theorem cut_drop (bs : List Nat) (k : Nat) : (bs.drop (106 * k)).drop (min (bs.drop (106 * k)).length 106) = bs.drop (106 * (k + 1)) := by
  rw [List.drop_drop, List.length_drop]
  by_cases h : 106 ≤ bs.length - 106 * k
  · rw [Nat.min_eq_right h]; rfl
  · rw [List.drop_of_length_le (by omega), List.drop_of_length_le (by omega)]
theorem cut_take (L : List Nat) : L.take (min L.length 106) = L.take 106 := by
  by_cases h : 106 ≤ L.length
  · rw [Nat.min_eq_right h]
  · rw [List.take_of_length_le (by omega), List.take_of_length_le (by omega)]
/-- Pieces' data, none of them where the pieces lie. -/
def DatF (B : Nat) (w : World) (v : Value) (xs : List (Pc × Sv)) : Prop := ∀ x ∈ xs, LSl en8 1 w (sv x.2) x.1.da ∧ ∀ r, (sv x.2).ownBlock = some r → B ≤ r ∧ r < w.heap.size ∧ v.ownBlock ≠ some r
theorem DatF.below {B : Nat} {w w' : World} {v : Value} {xs : List (Pc × Sv)} (h : DatF B w v xs) (hb : Below w.heap.size w w') : DatF B w' v xs := fun x hx =>
  ⟨(h x hx).1.below hb, fun r hr => ⟨((h x hx).2 r hr).1, Nat.lt_of_lt_of_le ((h x hx).2 r hr).2.1 hb.size, ((h x hx).2 r hr).2.2⟩⟩
set_option maxRecDepth 20000 in
set_option maxHeartbeats 4000000 in
theorem cut_main (w : World) (ep ct : Nat) (v : Value) (bs : List Nat) (h : LSl en8 1 w v bs) (hep : ep ≤ 16777215) (hct : ct ≤ 1099511627775) (hn : cutN bs - 1 ≤ 1099511627775 - ct) (hl : bs.length ≤ 8192) :
    Calls Try.prog 36 #[.int .u64 ep, .int .u64 ct, v] w fun e w' => Below w.heap.size w w' ∧ ∃ v', e = .returned (.tuple #[v', .int .i64 0]) ∧ PcsO w.heap.size w' v' (cutL ep ct bs) := by
  have hsl := h
  have hn1 := cutN_pos bs
  have hn2 := cutN_le bs
  unfold cutL
  obtain ⟨q, hqe⟩ : ∃ q, (bs.length + 105) / 106 = q := ⟨_, rfl⟩
  have hnq : cutN bs = max q 1 := by unfold cutN; rw [hqe]
  have hq : ((bs.length : Int) + 106 - 1) / 106 = ((q : Nat) : Int) := by omega
  obtain ⟨n, hne⟩ : ∃ n, cutN bs = n := ⟨_, rfl⟩
  rw [hne] at hn hn1 hn2 hnq ⊢
  have hmx : (if (q : Int) < 1 then (1 : Int) else q) = n := by split <;> omega
  have hnb : 106 * (n - 1) ≤ bs.length := by omega
  obtain ⟨ao, cap, rfl, h1, h2, h3⟩ := h
  unfold maxLen at h2
  have he1 : decide ((16777215 : Int) < ep) = false := by simp; omega
  have he2 : decide ((1099511627775 : Int) < ct) = false := by simp; omega
  have he3 : decide ((1099511627775 : Int) - ct < (n : Int) - 1) = false := by simp; omega
  have he4 : decide ((8192 : Int) < bs.length) = false := by simp; omega
  have hn1' : (1 : Int) ≤ n := by omega
  have hn2' : (n : Int) ≤ 9000 := by omega
  have HNE := Lib.hid hne
  clear hqe hnq hne h3
  go_enter Try.func36, Try.ntmps36
  go_wp2_with fail
  clear hq hmx
  go_loopw [2, 9, 38] (fun bv ov iv wi => ∃ k : Nat, k ≤ n ∧ iv = .int .u64 k ∧ LSl en8 1 w bv (bs.drop (106 * k)) ∧ Below w.heap.size w wi ∧ ∃ xs : List (Pc × Sv), xs.map (·.1) = (List.range k).map (pieceAt ep ct bs) ∧ LOut enPc 5 78 w.heap.size wi ov xs ∧ DatF w.heap.size wi ov xs) (fun _ _ iv _ => n - (intOf iv).toNat)
  case atStart => exact ⟨0, Nat.zero_le _, rfl, hsl, Below.refl _ _, [], rfl, LOut.nil (Nat.le_refl _), fun x hx => by cases hx⟩
  case round =>
    obtain ⟨k, hk, rfl, hbv, hb, xs, hxs, hO, hD⟩ := hrel
    by_cases hkn : k < n
    · have hkn' : (k : Int) < (n : Int) := by omega
      have hbv0 := hbv
      have hlen : (bs.drop (106 * k)).length ≤ 8192 := by rw [List.length_drop]; omega
      have hpc : pieceAt ep ct bs k = ⟨ep, ct + k, decide (k = 0), decide (k + 1 = n), (bs.drop (106 * k)).take 106⟩ := by unfold pieceAt; rw [HNE.out]
      have hnx := cut_drop bs k
      have htk := cut_take (bs.drop (106 * k))
      have hxl : xs.length = k := by
        have := congrArg List.length hxs
        simpa using this
      generalize bs.drop (106 * k) = cs at *
      obtain ⟨a1, c1, rfl, h4, h5, -⟩ := hbv
      unfold maxLen at h5
      obtain ⟨j, hj⟩ : ∃ j, min cs.length 106 = j := ⟨_, rfl⟩
      rw [hj] at hnx htk
      have hmn : (if (106 : Int) < cs.length then (106 : Int) else cs.length) = j := by split <;> omega
      have hjl : j ≤ cs.length := by omega
      have hjc : (j : Int) ≤ (c1 : Int) := by omega
      have hjl' : (j : Int) ≤ (cs.length : Int) := by omega
      have hj106 : (j : Int) ≤ 106 := by omega
      obtain ⟨ad, had⟩ : ∃ ad, (if c1 = j then a1 else a1.map (·.add (j * 1))) = ad := ⟨_, rfl⟩
      obtain ⟨ln, hln⟩ : ∃ ln, cs.length - j = ln := ⟨_, rfl⟩
      obtain ⟨cn, hcn⟩ : ∃ cn, c1 - j = cn := ⟨_, rfl⟩
      have hdr := hbv0.drop2 (i := j) hjl had hln hcn
      have htake := hbv0.take (i := j) hjl
      rw [htk] at htake
      rw [hnx] at hdr
      have hcl := fun w1 (hb1 : Below w.heap.size w w1) => clone_any w1 _ _ (htake.below hb1) (by rw [List.length_take]; omega)
      have hol : xs.length ≤ 1000000000 := by omega
      have hct' : (ct : Int) ≤ 1099511627775 := by omega
      obtain ⟨f0, hf0⟩ : ∃ f, decide (k = 0) = f := ⟨_, rfl⟩
      obtain ⟨l0, hl0⟩ : ∃ f, decide (k + 1 = n) = f := ⟨_, rfl⟩
      rw [hf0, hl0] at hpc
      have hf1 : ((k : Int) == 0) = f0 := by rw [← hf0, Bool.eq_iff_iff]; simp
      have hf2 : ((k : Int) == (n : Int) - 1) = l0 := by rw [← hl0, Bool.eq_iff_iff]; simp; omega
      have HPC := Lib.hid hpc
      have HXS := Lib.hid hxs
      have HB := Lib.hid hb
      have HD := Lib.hid hD
      have HO := Lib.hid hO
      have HDR := Lib.hid hdr
      have HAD := Lib.hid had
      have HLN := Lib.hid hln
      have HCN := Lib.hid hcn
      have HJ := Lib.hid hj
      clear hpc hxs hb hD hO hdr had hln hcn hj hnx htk hxl hf0 hl0 hbv0 htake
      go_upto_region 11 with fail
      go_upto_region 12 with (first
        | (go_at_call 47; refine (hcl _ HB.out).mono ?_; rintro e w2 ⟨v2, rfl, hO2, hb2⟩; obtain ⟨a2, n2, c2, rfl⟩ := hO2.shape; have HO2 := Lib.hid hO2; have HB2 := Lib.hid hb2; clear hO2 hb2 hcl)
        | ((with_reducible refine wpList_append1Y elPc (HO.out.below HB2.out) (⟨ep, ct + k, f0, l0, cs.take 106⟩, (a2, n2, c2)) hol ?_ ?_ ?_ ?_); rfl; rfl; rfl; (intro v4 w4 hO4 hm4 hv4; have HO4 := Lib.hid hO4; have HM4 := Lib.hid hm4; have HV4 := Lib.hid hv4; clear hO4 hm4 hv4); go_frame)
        | fail)
      go_wp2_with (first
        | ((with_reducible refine wpList_exec rfl (exec_sliceLo2 Try.underlying33 size8 hjl HAD.out HLN.out HCN.out ?_ ?_) ?_); rfl; rfl; go_frame)
        | fail)
      have hb2 : Below w.heap.size w w2 := HB.out.trans (HB2.out.mono HB.out.size)
      have hOlo : ∀ b, u9.ownBlock = some b → w.heap.size ≤ b := HO.out.lo
      have hb4 : Below w.heap.size w w4 := hb2.trans (HM4.out.below (Nat.le_trans HB.out.size HB2.out.size) fun x hx e => by have := hOlo x e; omega)
      go_roundw
      case rel =>
        refine ⟨k + 1, by omega, by go_num, HDR.out, hb4, xs ++ [(⟨ep, ct + k, f0, l0, cs.take 106⟩, (a2, n2, c2))], ?_, HO4.out, ?_⟩
        · rw [List.map_append, HXS.out, List.range_succ, List.map_append, List.map_singleton, List.map_singleton, HPC.out]
        · intro x hx
          rcases List.mem_append.1 hx with hx | hx
          · have h0 := HD.out x hx
            have h2 := HD.out.below HB2.out x hx
            have hne : ∀ r, (sv x.2).ownBlock = some r → ¬ u9.ownBlock = some r := fun r hr => ((HD.out x hx).2 r hr).2.2
            refine ⟨h2.1.mod HM4.out hne, fun r hr => ⟨(h2.2 r hr).1, Nat.lt_of_lt_of_le (h2.2 r hr).2.1 HM4.out.size, ?_⟩⟩
            rcases HV4.out with hv | ⟨r', hv, hr'⟩
            · rw [hv]; exact hne r hr
            · rw [hv]
              intro e
              cases e
              have := (h2.2 r hr).2.1
              omega
          · rw [List.mem_singleton.1 hx]
            have hl2 := fun r hr => HO2.out.lo r hr
            have hlt2 := fun r hr => HO2.out.lt (r := r) hr
            have hne : ∀ r, (Value.slice a2 n2 c2).ownBlock = some r → ¬ u9.ownBlock = some r := fun r hr e => by
              have := hl2 r hr
              have := HO.out.lt e
              omega
            refine ⟨(HO2.out.sl el8.len).mod HM4.out hne, fun r hr => ⟨Nat.le_trans HB.out.size (hl2 r hr), Nat.lt_of_lt_of_le (hlt2 r hr) HM4.out.size, ?_⟩⟩
            rcases HV4.out with hv | ⟨r', hv, hr'⟩
            · rw [hv]; exact hne r hr
            · rw [hv]
              intro e
              cases e
              have := hlt2 r hr
              omega
      case measure => simp [intOf]; omega
    · obtain rfl : k = n := by omega
      have HXS := Lib.hid hxs
      have HB := Lib.hid hb
      have HD := Lib.hid hD
      have HO := Lib.hid hO
      obtain ⟨a2, n2, c2, rfl⟩ := hO.shape
      clear hxs hb hD hO hbv
      go_wp2
      go_ret2
      exact ⟨HB.out, _, rfl, xs, HXS.out, HO.out, HD.out⟩
theorem cut_arg (w : World) (ep ct : Nat) (v : Value) (bs : List Nat) (h : LSl en8 1 w v bs) (he64 : ep < 2 ^ 64) (hc64 : ct < 2 ^ 64) (hl : bs.length ≤ 50000) (hno : 16777215 < ep ∨ 1099511627775 < ct ∨ 1099511627775 - ct < cutN bs - 1) :
    Calls Try.prog 36 #[.int .u64 ep, .int .u64 ct, v] w fun e w' => e = .returned (.tuple #[.slice none 0 0, .int .i64 2]) ∧ w' = w := by
  obtain ⟨ao, cap, rfl, h1, h2, h3⟩ := h
  unfold maxLen at h2
  have hn1 := cutN_pos bs
  have hn2 := cutN_le bs
  obtain ⟨q, hqe⟩ : ∃ q, (bs.length + 105) / 106 = q := ⟨_, rfl⟩
  have hnq : cutN bs = max q 1 := by unfold cutN; rw [hqe]
  have hq : ((bs.length : Int) + 106 - 1) / 106 = ((q : Nat) : Int) := by omega
  obtain ⟨n, hne⟩ : ∃ n, cutN bs = n := ⟨_, rfl⟩
  rw [hne] at hn1 hn2 hnq hno
  have hmx : (if (q : Int) < 1 then (1 : Int) else q) = n := by split <;> omega
  have hn1' : (1 : Int) ≤ n := by omega
  have hn2' : (n : Int) ≤ 60000 := by omega
  clear hqe hnq hne h3
  by_cases he : 16777215 < ep
  · have he1 : decide ((16777215 : Int) < ep) = true := by simp; omega
    go_enter Try.func36, Try.ntmps36
    go_wp2
    go_ret2
    exact ⟨rfl, rfl⟩
  · have he1 : decide ((16777215 : Int) < ep) = false := by simp; omega
    by_cases hc : 1099511627775 < ct
    · have he2 : decide ((1099511627775 : Int) < ct) = true := by simp; omega
      go_enter Try.func36, Try.ntmps36
      go_wp2
      go_ret2
      exact ⟨rfl, rfl⟩
    · have he2 : decide ((1099511627775 : Int) < ct) = false := by simp; omega
      have hc' : (ct : Int) ≤ 1099511627775 := by omega
      have he3 : decide ((1099511627775 : Int) - ct < (n : Int) - 1) = true := by simp; omega
      go_enter Try.func36, Try.ntmps36
      go_wp2
      go_ret2
      exact ⟨rfl, rfl⟩
theorem cut_big (w : World) (ep ct : Nat) (v : Value) (bs : List Nat) (h : LSl en8 1 w v bs) (hep : ep ≤ 16777215) (hct : ct ≤ 1099511627775) (hn : cutN bs - 1 ≤ 1099511627775 - ct) (hl : bs.length ≤ 50000) (hl2 : 8192 < bs.length) :
    Calls Try.prog 36 #[.int .u64 ep, .int .u64 ct, v] w fun e w' => e = .returned (.tuple #[.slice none 0 0, .int .i64 5]) ∧ w' = w := by
  obtain ⟨ao, cap, rfl, h1, h2, h3⟩ := h
  unfold maxLen at h2
  have hn1 := cutN_pos bs
  have hn2 := cutN_le bs
  obtain ⟨q, hqe⟩ : ∃ q, (bs.length + 105) / 106 = q := ⟨_, rfl⟩
  have hnq : cutN bs = max q 1 := by unfold cutN; rw [hqe]
  have hq : ((bs.length : Int) + 106 - 1) / 106 = ((q : Nat) : Int) := by omega
  obtain ⟨n, hne⟩ : ∃ n, cutN bs = n := ⟨_, rfl⟩
  rw [hne] at hn1 hn2 hnq hn
  have hmx : (if (q : Int) < 1 then (1 : Int) else q) = n := by split <;> omega
  have hn1' : (1 : Int) ≤ n := by omega
  have hn2' : (n : Int) ≤ 60000 := by omega
  have hc' : (ct : Int) ≤ 1099511627775 := by omega
  have he1 : decide ((16777215 : Int) < ep) = false := by simp; omega
  have he2 : decide ((1099511627775 : Int) < ct) = false := by simp; omega
  have he3 : decide ((1099511627775 : Int) - ct < (n : Int) - 1) = false := by simp; omega
  have he4 : decide ((8192 : Int) < bs.length) = true := by simp; omega
  clear hqe hnq hne h3
  go_enter Try.func36, Try.ntmps36
  go_wp2
  go_ret2
  exact ⟨rfl, rfl⟩
/-- What Cut answers, in memory. -/
def CutR (B : Nat) (w' : World) (r : Except Int (List Pc)) (e : Ending) : Prop := match r with
  | .error k => e = .returned (.tuple #[.slice none 0 0, .int .i64 k])
  | .ok ps => ∃ v', e = .returned (.tuple #[v', .int .i64 0]) ∧ PcsO B w' v' ps
theorem cut_any (w : World) (ep ct : Nat) (v : Value) (bs : List Nat) (h : LSl en8 1 w v bs) (he64 : ep < 2 ^ 64) (hc64 : ct < 2 ^ 64) (hl : bs.length ≤ 50000) :
    Calls Try.prog 36 #[.int .u64 ep, .int .u64 ct, v] w fun e w' => Below w.heap.size w w' ∧ CutR w.heap.size w' (cutB ep ct bs) e := by
  unfold cutB
  by_cases h1 : 16777215 < ep ∨ 1099511627775 < ct ∨ 1099511627775 - ct < cutN bs - 1
  · rw [if_pos h1]
    refine (cut_arg w ep ct v bs h he64 hc64 hl h1).mono ?_
    rintro e w' ⟨rfl, rfl⟩
    exact ⟨Below.refl _ _, rfl⟩
  · rw [if_neg h1]
    by_cases h2 : 8192 < bs.length
    · rw [if_pos h2]
      refine (cut_big w ep ct v bs h (by omega) (by omega) (by omega) hl h2).mono ?_
      rintro e w' ⟨rfl, rfl⟩
      exact ⟨Below.refl _ _, rfl⟩
    · rw [if_neg h2]
      exact (cut_main w ep ct v bs h (by omega) (by omega) (by omega) (by omega)).mono fun e w' h => h
end Go.Proofs.Ytbkblhoagfonjaa

/- Write: where nothing is written. -/
namespace Go.Tn.Dk
open Go.Tn.Bt Go.Tn.Lp
/-- Pieces are written, till the power is off. -/
def putPcs (n : Nat) : List Pc → Dsk → Dsk × Nat
  | [], d => (d, 0)
  | q :: r, d => if d.dead ≠ 0 then (d.write (2 + q.ct % n) (sealB q), d.dead) else putPcs n r (d.write (2 + q.ct % n) (sealB q))
/-- Behind Write: the log, the disk, what is answered. -/
def Lg.write (l : Lg) (d : Dsk) (ps : List Pt) : Lg × Dsk × Nat :=
  if l.err ≠ 0 then (l, d, l.err) else if transB ps (l.homes d) = false then (l, d, 2) else
  match cutB l.epoch l.next (recB ps) with
  | .error _ => (l, d, 8)
  | .ok pcs => if l.free < pcs.length then (l, d, 8) else
    if (putPcs l.n pcs d).2 ≠ 0 then ({ l with err := (putPcs l.n pcs d).2 }, (putPcs l.n pcs d).1, (putPcs l.n pcs d).2)
    else ({ l with next := l.next + pcs.length, H := takeH l.H ps }, (putPcs l.n pcs d).1, 0)
end Go.Tn.Dk
namespace Go.Proofs.Ytbkblhoagfonjaa
open Go.RowKit Go.Tn Go.Tn.Bt Go.Tn.Lp Go.Tn.Dk
section
variable {w : World} {F FD : Nat → Prop} {g p : Nat} {l : Lg} {d : Dsk}
theorem gwrite_err (h : LAt w F g p l) (he : l.err ≠ 0) (v : Value) : Calls Try.prog 12 #[.pointer (some ⟨g, 0, none⟩), v] w fun e w' => e = .returned (.int .i64 (l.err : Nat)) ∧ w' = w := by
  have hok := ok_any h
  obtain ⟨m, L, clk, hb, -⟩ := h.ex
  have c7 := cell_of (o := 7) hb rfl
  have hne : (((l.err : Nat) : Int) != 0) = true := by rw [bne_iff_ne]; omega
  clear h hb he
  go_enter Try.func12, Try.ntmps12
  go_wp2_with (first
    | (go_at_call 34; refine hok.mono ?_; rintro e w2 ⟨rfl, hw⟩; obtain rfl := hw.symm; clear hw)
    | fail)
  go_ret
  exact ⟨rfl, rfl⟩
theorem gwrite_arg (h : LAt w F g p l) (hd : DAt w FD p d) (hok' : l.ok d) (he : l.err = 0) (v : Value) (ps : List Pt) (hp : PtsI w v ps) (hn : ps.length ≤ 100000) (ht : transB ps (l.homes d) = false) :
    Calls Try.prog 12 #[.pointer (some ⟨g, 0, none⟩), v] w fun e w' => e = .returned (.int .i64 2) ∧ Below w.heap.size w w' := by
  have hok := ok_any h
  have hho := homes_any h hd hok'.nd
  have hhi := hd.ok.hi
  have hh : l.homes d = d.L.length - 2 - l.n := rfl
  have htr := fun w2 (hb : Below w.heap.size w w2) => trans_any w2 v ps (hp.below hb) (l.homes d) (by omega) hn
  rw [ht] at htr
  obtain ⟨m, L, clk, hb, -⟩ := h.ex
  have c7 := cell_of (o := 7) hb rfl
  have hne : (((l.err : Nat) : Int) != 0) = false := by rw [bne_eq_false_iff_eq]; omega
  obtain ⟨a0, n0, c0, rfl⟩ : ∃ a n c, v = .slice a n c := by
    obtain ⟨xs, -, ⟨ao, cap, rfl, -⟩, -⟩ := hp
    exact ⟨_, _, _, rfl⟩
  have HTR := Lib.hid htr
  clear h hd hb he hp ht hok' hh htr
  go_enter Try.func12, Try.ntmps12
  go_wp2_with (first
    | (go_at_call 34; refine hok.mono ?_; rintro e w2 ⟨rfl, hw⟩; obtain rfl := hw.symm; clear hw)
    | (go_at_call 23; refine hho.mono ?_; rintro e w2 ⟨rfl, hb2⟩; have HB2 := Lib.hid hb2; clear hb2)
    | (go_at_call 35; refine (HTR.out _ HB2.out).mono ?_; rintro e w3 ⟨rfl, hb3⟩; have HB3 := Lib.hid hb3; clear hb3)
    | fail)
  go_ret
  exact ⟨rfl, HB2.out.trans (HB3.out.mono HB2.out.size)⟩
end
theorem recB_lt (ps : List Pt) : ∀ x ∈ recB ps, x < 256 := pack_lt _
theorem recB_le {ps : List Pt} {homes : Nat} (h : transB ps homes = true) : (recB ps).length ≤ 4000 := by
  have h1 := (transB_iff ps homes).1 h
  rw [recB_len fun p hp => (h1.2.2.1 p hp).2.2]
  omega
section
variable {w : World} {F FD : Nat → Prop} {g p : Nat} {l : Lg} {d : Dsk}
set_option maxRecDepth 20000 in
set_option maxHeartbeats 4000000 in
/-- No room. -/
theorem gwrite_full (h : LAt w F g p l) (hd : DAt w FD p d) (hok' : l.ok d) (he : l.err = 0) (v : Value) (ps : List Pt) (hp : PtsI w v ps) (hby : ∀ q ∈ ps, ∀ x ∈ q.2, x < 256) (ht : transB ps (l.homes d) = true) (k : Int)
    (hc : (cutB l.epoch l.next (recB ps) = .error k ∧ k ≠ 0) ∨ ∃ pcs, cutB l.epoch l.next (recB ps) = .ok pcs ∧ l.free < pcs.length ∧ k = 8) :
    Calls Try.prog 12 #[.pointer (some ⟨g, 0, none⟩), v] w fun e w' => e = .returned (.int .i64 8) ∧ Below w.heap.size w w' := by
  have hok := ok_any h
  have hho := homes_any h hd hok'.nd
  have hhi := hd.ok.hi
  have hh : l.homes d = d.L.length - 2 - l.n := rfl
  have hn24 := ((transB_iff ps _).1 ht).2.1
  have htr := fun w2 (hb : Below w.heap.size w w2) => trans_any w2 v ps (hp.below hb) (l.homes d) (by omega) (by omega)
  have hfit := fit_of_trans ht (by omega) hby
  have henc := fun w2 (hb : Below w.heap.size w w2) => encode_any w2 v ps (hp.below hb) hfit hn24
  have hrl := recB_le ht
  rw [ht] at htr
  have hgl := h.lt g h.fg
  have HL := Lib.hid h
  have HD := Lib.hid hd
  have HOK := Lib.hid hok'
  obtain ⟨m, L, clk, hb, -⟩ := h.ex
  have c7 := cell_of (o := 7) hb rfl
  have c2 := cell_of (o := 2) hb rfl
  have c5 := cell_of (o := 5) hb rfl
  have HC2 := Lib.hid c2
  have HC5 := Lib.hid c5
  have hne : (((l.err : Nat) : Int) != 0) = false := by rw [bne_eq_false_iff_eq]; omega
  obtain ⟨a0, n0, c0, rfl⟩ : ∃ a n c, v = .slice a n c := by
    obtain ⟨xs, -, ⟨ao, cap, rfl, -⟩, -⟩ := hp
    exact ⟨_, _, _, rfl⟩
  have hep : l.epoch < 2 ^ 64 := Nat.lt_of_le_of_lt hok'.epoch (by decide)
  have hnx : l.next < 2 ^ 64 := Nat.lt_trans hok'.small (by decide)
  have HTR := Lib.hid htr
  have HENC := Lib.hid henc
  have HPI := Lib.hid hp
  clear h hd hb he hp ht hok' hh htr c2 c5 henc hfit
  go_enter Try.func12, Try.ntmps12
  go_upto_region 7 with (first
    | (go_at_call 34; refine hok.mono ?_; rintro e w2 ⟨rfl, hw⟩; obtain rfl := hw.symm; clear hw)
    | (go_at_call 23; refine hho.mono ?_; rintro e w2 ⟨rfl, hb2⟩; have HB2 := Lib.hid hb2; clear hb2)
    | (go_at_call 35; refine (HTR.out _ HB2.out).mono ?_; rintro e w3 ⟨rfl, hb3⟩; have HB3 := Lib.hid (HB2.out.trans (hb3.mono HB2.out.size)); clear hb3)
    | fail)
  have hS : w3.drew.cell? ⟨g, 2, none⟩ = some (.int .u64 (l.epoch : Nat)) ∧ w3.drew.cell? ⟨g, 5, none⟩ = some (.int .u64 (l.next : Nat)) := ⟨(HB3.out.cell (p := ⟨g, 2, none⟩) hgl).trans HC2.out, (HB3.out.cell (p := ⟨g, 5, none⟩) hgl).trans HC5.out⟩
  refine wp_region_x (fun w' => w'.cell? ⟨g, 2, none⟩ = some (.int .u64 (l.epoch : Nat)) ∧ w'.cell? ⟨g, 5, none⟩ = some (.int .u64 (l.next : Nat))) [(0, 1), (1, 1), (2, 1), (3, 0), (4, 1), (5, 1), (6, 1), (7, 0), (8, 1), (9, 2), (10, 2), (11, 1), (12, 1), (13, 1), (14, 1), (15, 1)] (by kernel_rfl) (by kernel_rfl) (by intro d v c a w h; cases d <;> exact h) ?_
  iterate 3 (refine x_take rfl (fun K hK => ?_); go_simp; refine hK _ ?_; clear hK K)
  refine x_read rfl hS (fun w' h => exec_load1 ⟨⟨_, Try.underlying51, rfl⟩⟩ rfl h.1) ?_
  iterate 3 (refine x_take rfl (fun K hK => ?_); go_simp; refine hK _ ?_; clear hK K)
  refine x_read rfl hS (fun w' h => exec_load1 ⟨⟨_, Try.underlying51, rfl⟩⟩ rfl h.2) ?_
  iterate 1 (refine x_take rfl (fun K hK => ?_); go_simp; refine hK _ ?_; clear hK K)
  refine x_show' rfl (fun K hK => ?_)
  go_simp
  refine (HENC.out _ HB3.out.drew).mono ?_
  rintro e w4 ⟨v4, rfl, hO4, hb4⟩
  have hgl3 : g < w3.drew.heap.size := Nat.lt_of_lt_of_le hgl HB3.out.size
  have hS4 : w4.cell? ⟨g, 2, none⟩ = some (.int .u64 (l.epoch : Nat)) ∧ w4.cell? ⟨g, 5, none⟩ = some (.int .u64 (l.next : Nat)) := ⟨(hb4.cell (p := ⟨g, 2, none⟩) hgl3).trans hS.1, (hb4.cell (p := ⟨g, 5, none⟩) hgl3).trans hS.2⟩
  have HB4 : Hid (Below w.heap.size w w4) := Lib.hid (HB3.out.drew.trans (hb4.mono HB3.out.size))
  refine hK _ _ hS4 ?_
  clear hK K hb4 hS hgl3
  refine x_show' rfl (fun K hK => ?_)
  go_simp
  refine (cut_any w4 l.epoch l.next v4 (recB ps) (hO4.sl el8.len) hep hnx (by omega)).mono ?_
  rintro e w5 ⟨hb5, hR⟩
  have hgl4 : g < w4.heap.size := Nat.lt_of_lt_of_le hgl HB4.out.size
  have hS5 : w5.cell? ⟨g, 2, none⟩ = some (.int .u64 (l.epoch : Nat)) ∧ w5.cell? ⟨g, 5, none⟩ = some (.int .u64 (l.next : Nat)) := ⟨(hb5.cell (p := ⟨g, 2, none⟩) hgl4).trans hS4.1, (hb5.cell (p := ⟨g, 5, none⟩) hgl4).trans hS4.2⟩
  have HB5 : Hid (Below w.heap.size w w5) := Lib.hid (HB4.out.trans (hb5.mono HB4.out.size))
  have hw4 : w.heap.size ≤ w4.heap.size := HB4.out.size
  clear hb5 hS4 hO4 hgl4
  unfold CutR at hR
  rcases hc with ⟨hce, hk⟩ | ⟨pcs, hce, hlt, rfl⟩
  · rw [hce] at hR
    simp only at hR
    subst hR
    refine hK _ _ hS5 ?_
    clear hK K hS5 hce
    iterate 5 (refine x_take rfl (fun K hK => ?_); go_simp; refine hK _ ?_; clear hK K)
    refine x_nil ?_
    have hne2 : (k != 0) = true := by rw [bne_iff_ne]; exact hk
    go_wp2
    go_ret
    exact ⟨rfl, HB5.out⟩
  · rw [hce] at hR
    simp only at hR
    obtain ⟨v5, rfl, xs5, hxs5, hO5, hD5⟩ := hR
    obtain ⟨a5, c5, rfl, hn5, hc5, -⟩ := hO5.sl elPc.len
    have hxl : xs5.length = pcs.length := by rw [← hxs5]; simp
    rw [hxl] at hn5 ⊢
    unfold maxLen at hc5
    have hfr := free_any (HL.out.below HB5.out) HOK.out.tail HOK.out.next HOK.out.small (by have := HOK.out.nd; omega)
    have hd : decide (l.free < pcs.length) = true := by simp [hlt]
    have hpl : (pcs.length : Int) ≤ 9223372036854775807 := by omega
    refine hK _ _ hS5 ?_
    clear hK K hS5 hce hxs5 hO5 hD5 hxl hlt
    iterate 5 (refine x_take rfl (fun K hK => ?_); go_simp; refine hK _ ?_; clear hK K)
    refine x_nil ?_
    go_wp2_with (first
      | (go_at_call 14; refine hfr.mono ?_; rintro e w6 ⟨rfl, hb6⟩; have HB6 := Lib.hid hb6; clear hb6)
      | fail)
    go_ret
    exact ⟨rfl, HB5.out.trans (HB6.out.mono HB5.out.size)⟩
end
end Go.Proofs.Ytbkblhoagfonjaa
