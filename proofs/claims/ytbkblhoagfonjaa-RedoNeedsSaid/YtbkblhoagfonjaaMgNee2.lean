/- Proved: RedoNeeds returns true and its arguments read as they did. No condition: of all numbers, puts. -/
import Derived.Test.YtbkblhoagfonjaaMgNee1
import Derived.Test.YtbkblhoagfonjaaMgSb21
/- The document's Record, Is; the disk's Waits: walked. -/
namespace Go.Proofs.Ytbkblhoagfonjaa
open Go.RowKit Go.Tn Go.Tn.Bt Go.Tn.Lp Go.Tn.Dk
set_option maxRecDepth 20000 in
set_option maxHeartbeats 4000000 in
theorem rrecord_any (w : World) (v : Value) (ps : List Pt) (hp : PtsI w v ps) (hf : ∀ p ∈ ps, fitP p) (hn : ps.length ≤ 24) : Calls Try.prog 11 #[v] w
    fun e w' => ∃ v', e = .returned v' ∧ LOut en8 1 5 w.heap.size w' v' (recB ps) ∧ Below w.heap.size w w' := by
  obtain ⟨xs, hxs, hL, hD⟩ := hp
  have hxl : xs.length = ps.length := by rw [← hxs]; simp
  obtain ⟨ao, cap, rfl, h1, h2, h3⟩ := hL
  rw [hxl] at h1 h3 ⊢
  unfold maxLen at h2
  have HXS := Lib.hid hxs
  have HD := Lib.hid hD
  have HXL := Lib.hid hxl
  have HF := Lib.hid hf
  clear hxs hD hxl hf
  have hl63 : (ps.length : Int) ≤ 24 := by omega
  have hl64 : (ps.length : Int) % 18446744073709551616 = (ps.length : Int) := by omega
  have hbt := rbits_any w ps.length 8 (by omega) (by omega)
  rw [show ((8 : Nat) : Int) = 8 from rfl] at hbt
  go_enter Try.func11, Try.ntmps11
  go_wp2_with fail
  refine hbt.mono ?_
  rintro e w1 ⟨v1, rfl, hO1, hb1⟩
  obtain ⟨a1, n1, c1, rfl⟩ := LOut.shape hO1
  have HO1 := Lib.hid hO1
  have HB1 := Lib.hid hb1
  clear hO1 hb1 hbt hl64
  go_wp2
  go_loopw [3, 4] (fun ov iv wi => ∃ k : Nat, k ≤ ps.length ∧ iv = .int .i64 k ∧ LOut en8 1 5 w.heap.size wi ov (b01 (bitsN ps.length 8 ++ (ps.take k).flatMap putBits)) ∧ Below w.heap.size w wi) (fun _ iv _ => ps.length - (intOf iv).toNat)
  case atStart => exact ⟨0, Nat.zero_le _, rfl, by simpa using HO1.out, HB1.out⟩
  case round =>
    obtain ⟨k, hk, rfl, hO, hb⟩ := hrel
    by_cases hlt : k < ps.length
    · have hd1 : decide (k < ps.length) = true := by simp [hlt]
      obtain ⟨x, hx⟩ : ∃ x, xs[k]? = some x := ⟨_, List.getElem?_eq_getElem (by rw [HXL.out]; exact hlt)⟩
      obtain ⟨b, off, rfl, hbl, hcells⟩ := h3 (by omega)
      have hlies := (hcells k x hx).below' hb hbl
      have hpx : ps[k]? = some x.1 := by rw [← HXS.out, List.getElem?_map, hx]; rfl
      have hdx := HD.out x (List.mem_of_getElem? hx)
      have hfx := HF.out _ (List.mem_of_getElem? hpx)
      have hlc := fun (W : World) (hW : Below w.heap.size w W) => (hcells k x hx).below' hW hbl
      obtain ⟨⟨at_, dat⟩, ⟨a4, n4, c4⟩⟩ := x
      obtain ⟨f1, f2, f3, f4⟩ := hfx
      simp only at f1 f2 f3 f4
      obtain ⟨at_, rfl⟩ := Int.eq_ofNat_of_zero_le f1
      have q0 : wr.cell? ⟨b, off + k * 2, none⟩ = some (.int .i64 (at_ : Nat)) := hlies 0 (by simp [enPt])
      have hsn : b01 (bitsN ps.length 8 ++ (ps.take (k + 1)).flatMap putBits) = b01 (bitsN ps.length 8 ++ (ps.take k).flatMap putBits) ++ b01 (bitsN at_ 12) ++ b01 (unpack dat) := by
        rw [take_snoc hpx, List.flatMap_append, b01_append, b01_append, b01_append]
        simp only [List.flatMap_cons, List.flatMap_nil, List.append_nil, putBits, b01_append, Int.toNat_natCast, List.append_assoc]
        rfl
      have hll : (b01 (bitsN ps.length 8 ++ (ps.take k).flatMap putBits)).length = 8 + 1036 * k := by
        rw [b01_len, List.length_append, bitsN_len, puts_len _ fun p hp => (HF.out p (List.mem_of_mem_take hp)).2.2.1, List.length_take, Nat.min_eq_left (by omega)]
      obtain ⟨ls, hls⟩ : ∃ ls, b01 (bitsN ps.length 8 ++ (ps.take k).flatMap putBits) = ls := ⟨_, rfl⟩
      rw [hls] at hO hsn hll
      have hbt := rbits_any wr at_ 12 (by omega) (by omega)
      rw [show ((12 : Nat) : Int) = 12 from rfl] at hbt
      have ha63 : (at_ : Int) ≤ 4095 := by omega
      have ha64 : (at_ : Int) % 18446744073709551616 = (at_ : Int) := by omega
      have hll1 : ls.length + (b01 (bitsN at_ 12)).length ≤ 100000 := by rw [hll, b01_len, bitsN_len]; omega
      have hll2 : (ls ++ b01 (bitsN at_ 12)).length + (b01 (unpack dat)).length ≤ 100000 := by rw [List.length_append, hll, b01_len, b01_len, bitsN_len, unpack_len, f3]; omega
      have HSN := Lib.hid hsn
      have HLC := Lib.hid hlc
      have HDX := Lib.hid hdx
      have HF3 := Lib.hid f3
      have HF4 := Lib.hid f4
      obtain ⟨a3, n3, c3, rfl⟩ := LOut.shape hO
      have HO := Lib.hid hO
      have HB := Lib.hid hb
      clear hO hb hx hcells hlies hpx hdx hlc hsn hls hll f1 f2 f3 f4
      go_wp2_with fail
      refine hbt.mono ?_
      rintro e w2 ⟨v2, rfl, hO2, hb2⟩
      obtain ⟨a2, n2, c2, rfl⟩ := LOut.shape hO2
      have HO2 := Lib.hid hO2
      have HB2 := Lib.hid hb2
      clear hO2 hb2 hbt q0 ha64
      go_upto_region 6 with (first
        | ((with_reducible refine wpList_appendN el8 (HO.out.below HB2.out) (HO2.out.sl el8.len) hll1 ?_ ?_ ?_); rfl; rfl; (intro v5 w5 hO5 hg5 hl5; obtain ⟨a5, n5, c5, rfl⟩ := LOut.shape hO5; have HO5 := Lib.hid hO5; have HG5 := Lib.hid hg5; clear hO5 hg5 hl5); go_frame)
        | fail)
      have hB5 : Below w.heap.size w w5 := (HB.out.trans (HB2.out.mono HB.out.size)).grown HG5.out (Nat.le_trans HB.out.size HB2.out.size) HO.out.lo
      have q1 : w5.cell? ⟨b, off + k * 2 + 1, none⟩ = some (.slice a4 n4 c4) := (HLC.out _ hB5) 1 (by simp [enPt])
      have hd5 : LSl en8 1 w5 (.slice a4 n4 c4) dat := LSl.below HDX.out hB5
      have hof := rof_any w5 _ dat hd5 HF4.out (by rw [HF3.out]; omega)
      have HB5 := Lib.hid hB5
      clear hB5 hd5
      go_wp2_with fail
      refine hof.mono ?_
      rintro e w6 ⟨v6, rfl, hO6, hb6⟩
      obtain ⟨a6, n6, c6, rfl⟩ := LOut.shape hO6
      have HO6 := Lib.hid hO6
      have HB6 := Lib.hid hb6
      clear hO6 hb6 hof q1
      go_wp2_with (first
        | ((with_reducible refine wpList_appendN el8 (HO5.out.below HB6.out) (HO6.out.sl el8.len) hll2 ?_ ?_ ?_); rfl; rfl; (intro v7 w7 hO7 hg7 hl7; have HO7 := Lib.hid hO7; have HG7 := Lib.hid hg7; clear hO7 hg7 hl7); go_frame)
        | fail)
      go_roundw
      case rel =>
        refine ⟨k + 1, by omega, by go_num, by rw [HSN.out]; exact HO7.out, ?_⟩
        exact (HB5.out.trans (HB6.out.mono HB5.out.size)).grown HG7.out (Nat.le_trans HB5.out.size HB6.out.size) HO5.out.lo
      case measure => simp [intOf]; omega
    · obtain rfl : k = ps.length := by omega
      have hd1 : decide (ps.length < ps.length) = false := by simp
      rw [List.take_length] at hO
      have hle : (bitsN ps.length 8 ++ ps.flatMap putBits).length ≤ 80000 := by
        rw [List.length_append, bitsN_len, puts_len _ fun p hp => (HF.out p hp).2.2.1]
        omega
      have hby := rbytes_any wr _ _ (hO.sl el8.len) hle
      obtain ⟨a3, n3, c3, rfl⟩ := LOut.shape hO
      have HB := Lib.hid hb
      clear hO hb
      go_wp2_with fail
      refine hby.mono ?_
      rintro e w2 ⟨v2, rfl, hO2, hb2⟩
      obtain ⟨a2, n2, c2, rfl⟩ := LOut.shape hO2
      have HO2 := Lib.hid hO2
      have HB2 := Lib.hid hb2
      clear hO2 hb2 hby
      go_wp2
      go_ret
      exact ⟨_, rfl, HO2.out.mono HB.out.size, HB.out.trans (HB2.out.mono HB.out.size)⟩
theorem trans_len {ps : List Pt} {homes : Nat} (h : ¬ (1 ≤ ps.length ∧ ps.length ≤ 24)) : transB ps homes = false := by
  cases hb : transB ps homes with
  | false => rfl
  | true =>
    have := (transB_iff ps homes).1 hb
    exact absurd ⟨this.1, this.2.1⟩ h
theorem mem_take_fst {ps : List Pt} {k j : Nat} {q : Pt} (hj : j < k) (hq : ps[j]? = some q) : q.1 ∈ (ps.take k).map (·.1) :=
  List.mem_map.2 ⟨q, List.mem_of_getElem? (i := j) (by rw [List.getElem?_take, if_pos hj]; exact hq), rfl⟩
set_option maxRecDepth 20000 in
set_option maxHeartbeats 4000000 in
theorem ris_any (w : World) (v : Value) (ps : List Pt) (hp : PtsI w v ps) (homes : Nat) (hh : homes ≤ 100000) : Calls Try.prog 10 #[v, .int .i64 homes] w
    fun e w' => e = .returned (.bool (transB ps homes)) ∧ Below w.heap.size w w' := by
  obtain ⟨xs, hxs, hL, hD⟩ := hp
  have hxl : xs.length = ps.length := by rw [← hxs]; simp
  obtain ⟨ao, cap, rfl, h1, h2, h3⟩ := hL
  rw [hxl] at h1 h3 ⊢
  unfold maxLen at h2
  have HXS := Lib.hid hxs
  have HD := Lib.hid hD
  have HXL := Lib.hid hxl
  clear hxs hD hxl
  have hl64 : (ps.length : Int) ≤ 9223372036854775807 := by omega
  by_cases hlo : ps.length < 1
  · have hz : decide ((ps.length : Int) < 1) = true := by simp; omega
    rw [trans_len (by omega)]
    go_enter Try.func10, Try.ntmps10
    go_wp2
    go_ret
    exact ⟨rfl, Below.refl _ _⟩
  by_cases hhi : 24 < ps.length
  · have hz : decide ((ps.length : Int) < 1) = false := by simp; omega
    have hz2 : decide ((24 : Int) < (ps.length : Int)) = true := by simp; omega
    rw [trans_len (by omega)]
    go_enter Try.func10, Try.ntmps10
    go_wp2
    go_ret
    exact ⟨rfl, Below.refl _ _⟩
  have hz : decide ((ps.length : Int) < 1) = false := by simp; omega
  have hz2 : decide ((24 : Int) < (ps.length : Int)) = false := by simp; omega
  have hl63 : (ps.length : Int) ≤ 24 := by omega
  have hh63 : (homes : Int) ≤ 100000 := by omega
  go_enter Try.func10, Try.ntmps10
  go_wp2
  go_loopw [5] (fun iv wi => ∃ k : Nat, k ≤ ps.length ∧ iv = .int .i64 k ∧ (∀ p ∈ ps.take k, goodP p homes) ∧ ((ps.take k).map (·.1)).Nodup ∧ Below w.heap.size w wi) (fun iv _ => ps.length - (intOf iv).toNat)
  case atStart => exact ⟨0, Nat.zero_le _, rfl, (fun p hp => by cases hp), List.nodup_nil, Below.refl _ _⟩
  case round =>
    obtain ⟨k, hk, rfl, hg, hnd, hb⟩ := hrel
    by_cases hlt : k < ps.length
    · have hd1 : decide (k < ps.length) = true := by simp [hlt]
      obtain ⟨x, hx⟩ : ∃ x, xs[k]? = some x := ⟨_, List.getElem?_eq_getElem (by rw [HXL.out]; exact hlt)⟩
      obtain ⟨b, off, rfl, hbl, hcells⟩ := h3 (by omega)
      have hlies := (hcells k x hx).below' hb hbl
      have hpx : ps[k]? = some x.1 := by rw [← HXS.out, List.getElem?_map, hx]; rfl
      obtain ⟨da, dc, hdv, -, hd2, -⟩ := HD.out x (List.mem_of_getElem? hx)
      obtain ⟨⟨at_, dat⟩, ⟨a1, n1, c1⟩⟩ := x
      obtain ⟨rfl, rfl, rfl⟩ : a1 = da ∧ n1 = dat.length ∧ c1 = dc := by simpa [sv] using hdv
      simp only at hd2 hpx
      unfold maxLen at hd2
      have q0 : wr.cell? ⟨b, off + k * 2, none⟩ = some (.int .i64 at_) := hlies 0 (by simp [enPt])
      have q1 : wr.cell? ⟨b, off + k * 2 + 1, none⟩ = some (.slice a1 dat.length c1) := hlies 1 (by simp [enPt, sv])
      have hts := take_snoc hpx
      have HG := Lib.hid hg
      have HND := Lib.hid hnd
      have HB := Lib.hid hb
      have HPX := Lib.hid hpx
      have HTS := Lib.hid hts
      have HCE := Lib.hid hcells
      have hbr : b < wr.heap.size := Nat.lt_of_lt_of_le hbl hb.size
      clear hg hnd hb hpx hts hcells hlies hx hdv hd2
      by_cases hA : at_ < 0
      · have hA' : decide (at_ < 0) = true := by simp [hA]
        have HBAD := Lib.hid (trans_bad (homes := homes) HPX.out fun e => absurd e.1 (by simp only; omega))
        go_wp2
        go_ret
        rw [HBAD.out]
        exact ⟨rfl, HB.out⟩
      have hA' : decide (at_ < 0) = false := by simp; omega
      by_cases hH : (homes : Int) ≤ at_
      · have hH' : decide ((homes : Int) ≤ at_) = true := by simp [hH]
        have HBAD := Lib.hid (trans_bad (homes := homes) HPX.out fun e => absurd e.2.1 (by simp only; omega))
        go_wp2
        go_ret
        rw [HBAD.out]
        exact ⟨rfl, HB.out⟩
      have hH' : decide ((homes : Int) ≤ at_) = false := by simp; omega
      by_cases hC : dat.length = 128
      rotate_left
      · have hC' : ((dat.length : Int) != 128) = true := by rw [bne_iff_ne]; omega
        have HBAD := Lib.hid (trans_bad (homes := homes) HPX.out fun e => absurd e.2.2 hC)
        go_wp2
        go_ret
        rw [HBAD.out]
        exact ⟨rfl, HB.out⟩
      have hC' : ((dat.length : Int) != 128) = false := by rw [bne_eq_false_iff_eq]; omega
      have HC := Lib.hid hC
      have HLT := Lib.hid hlt
      clear hC
      go_wp2
      go_loopw [6] (fun jv wj => ∃ j : Nat, j ≤ k ∧ jv = .int .i64 j ∧ (∀ i q, i < j → ps[i]? = some q → q.1 ≠ at_) ∧ Below w.heap.size w wj) (fun jv _ => k - (intOf jv).toNat)
      case atStart => exact ⟨0, Nat.zero_le _, rfl, (fun i q hi => absurd hi (Nat.not_lt_zero _)), HB.out⟩
      case round =>
        obtain ⟨j, hj, rfl, hno, hbj⟩ := hrel
        by_cases hjk : j < k
        · have hdj : decide (j < k) = true := by simp [hjk]
          obtain ⟨y, hy⟩ : ∃ y, xs[j]? = some y := ⟨_, List.getElem?_eq_getElem (by rw [HXL.out]; omega)⟩
          have hpy : ps[j]? = some y.1 := by rw [← HXS.out, List.getElem?_map, hy]; rfl
          have hly := (HCE.out j y hy).below' hbj hbl
          obtain ⟨x, hx⟩ : ∃ x, xs[k]? = some x := ⟨_, List.getElem?_eq_getElem (by rw [HXL.out]; exact HLT.out)⟩
          have hlx := (HCE.out k x hx).below' hbj hbl
          have hxa : x.1.1 = at_ := by
            have h1 : ps[k]? = some x.1 := by rw [← HXS.out, List.getElem?_map, hx]; rfl
            rw [HPX.out] at h1
            rw [← Option.some.inj h1]
          have p0 : wr.drew.cell? ⟨b, off + j * 2, none⟩ = some (.int .i64 y.1.1) := hly 0 (by simp [enPt])
          have p1 : wr.drew.cell? ⟨b, off + k * 2, none⟩ = some (.int .i64 at_) := by rw [← hxa]; exact hlx 0 (by simp [enPt])
          generalize hya : y.1.1 = ya at *
          have hS := And.intro p0 p1
          have hjl : (j : Int) < (ps.length : Int) := by omega
          have hkl : (k : Int) < (ps.length : Int) := by have := HLT.out; omega
          have HPY := Lib.hid hpy
          have HYA := Lib.hid hya
          have HBJ := Lib.hid hbj
          have HNO := Lib.hid hno
          clear p0 p1 hy hly hx hlx hxa hpy hya hbj hno q0 q1
          by_cases heq : ya = at_
          · subst heq
            have hee : (ya == ya) = true := by simp
            have HBAD := Lib.hid (trans_dup (homes := homes) HPX.out (by simp only; rw [← HYA.out]; exact mem_take_fst hjk HPY.out))
            go_wp2_with fail
            refine wp_region_x (fun w' => w'.cell? ⟨b, off + j * 2, none⟩ = some (.int .i64 ya) ∧ w'.cell? ⟨b, off + k * 2, none⟩ = some (.int .i64 ya)) [(0, 1), (1, 1), (2, 1), (3, 1), (4, 0), (5, 1), (6, 1), (7, 1), (8, 1), (9, 0), (10, 1)] (by kernel_rfl) (by kernel_rfl) (by intro d v c a w h; cases d <;> exact h) ?_
            iterate 4 (refine x_take rfl (fun K hK => ?_); go_simp; refine hK _ ?_; clear hK K)
            refine x_read rfl hS (fun w' h => exec_load1 ⟨⟨_, Try.underlying3, rfl⟩⟩ rfl h.1) ?_
            iterate 4 (refine x_take rfl (fun K hK => ?_); go_simp; refine hK _ ?_; clear hK K)
            refine x_read rfl hS (fun w' h => exec_load1 ⟨⟨_, Try.underlying3, rfl⟩⟩ rfl h.2) ?_
            iterate 1 (refine x_take rfl (fun K hK => ?_); go_simp; refine hK _ ?_; clear hK K)
            refine x_nil ?_
            clear hS
            go_wp2
            go_ret
            rw [HBAD.out]
            exact ⟨rfl, HBJ.out.drew⟩
          · have hee : (ya == at_) = false := beq_eq_false_iff_ne.2 heq
            go_wp2_with fail
            refine wp_region_x (fun w' => w'.cell? ⟨b, off + j * 2, none⟩ = some (.int .i64 ya) ∧ w'.cell? ⟨b, off + k * 2, none⟩ = some (.int .i64 at_)) [(0, 1), (1, 1), (2, 1), (3, 1), (4, 0), (5, 1), (6, 1), (7, 1), (8, 1), (9, 0), (10, 1)] (by kernel_rfl) (by kernel_rfl) (by intro d v c a w h; cases d <;> exact h) ?_
            iterate 4 (refine x_take rfl (fun K hK => ?_); go_simp; refine hK _ ?_; clear hK K)
            refine x_read rfl hS (fun w' h => exec_load1 ⟨⟨_, Try.underlying3, rfl⟩⟩ rfl h.1) ?_
            iterate 4 (refine x_take rfl (fun K hK => ?_); go_simp; refine hK _ ?_; clear hK K)
            refine x_read rfl hS (fun w' h => exec_load1 ⟨⟨_, Try.underlying3, rfl⟩⟩ rfl h.2) ?_
            iterate 1 (refine x_take rfl (fun K hK => ?_); go_simp; refine hK _ ?_; clear hK K)
            refine x_nil ?_
            clear hS
            have HEQ := Lib.hid heq
            clear heq
            go_wp2
            go_roundw
            case rel =>
              refine ⟨j + 1, by omega, by go_num, fun i q hi hq => ?_, HBJ.out.drew⟩
              by_cases hij : i = j
              · subst hij
                rw [HPY.out] at hq
                rw [← Option.some.inj hq, HYA.out]
                exact HEQ.out
              · exact HNO.out i q (by omega) hq
            case measure => simp [intOf]; omega
        · obtain rfl : j = k := by omega
          have hdj : decide (j < j) = false := by simp
          have HNO := Lib.hid hno
          have HBJ := Lib.hid hbj
          clear hno hbj q0 q1
          go_wp2
          go_roundw
          case rel =>
            refine ⟨j + 1, by omega, by go_num, ?_, ?_, HBJ.out⟩
            · rw [HTS.out]
              intro p hp
              rcases List.mem_append.1 hp with hp | hp
              · exact HG.out p hp
              · rw [List.mem_singleton.1 hp]
                exact ⟨by simp only; omega, by simp only; omega, HC.out⟩
            · rw [HTS.out, List.map_append]
              refine List.pairwise_append.2 ⟨HND.out, by simp, fun a ha c hc e => ?_⟩
              simp at hc
              subst hc
              obtain ⟨q, hq, hqa⟩ := List.mem_map.1 ha
              obtain ⟨i, hi⟩ := List.mem_iff_getElem?.1 hq
              rw [List.getElem?_take] at hi
              split at hi
              · rename_i hij
                exact HNO.out i q hij hi (by rw [hqa, e])
              · cases hi
          case measure => simp [intOf]; omega
    · obtain rfl : k = ps.length := by omega
      have hd1 : decide (ps.length < ps.length) = false := by simp
      rw [List.take_length] at hg hnd
      have hT : transB ps homes = true := (transB_iff ps homes).2 ⟨by omega, by omega, hg, hnd⟩
      have HT := Lib.hid hT
      have HB := Lib.hid hb
      clear hg hnd hb hT
      go_wp2
      go_ret
      rw [HT.out]
      exact ⟨rfl, HB.out⟩
end Go.Proofs.Ytbkblhoagfonjaa

/- The disk's Waits, where nothing waits; puts apart from what is made later; plain facts of Write. -/
namespace Go.Proofs.Ytbkblhoagfonjaa
open Go.RowKit Go.Tn Go.Tn.Bt Go.Tn.Lp Go.Tn.Dk
theorem waits_none {w : World} {F : Nat → Prop} {p : Nat} {d : Dsk} (h : DAt w F p d) (hQ : d.Q = []) : Calls Try.prog 15 #[.pointer (some ⟨p, 0, none⟩)] w fun e w' => e = .returned (.slice none 0 0) ∧ w' = w := by
  obtain ⟨r, qv, h1, h2, h3, h4, h5, h6, h7⟩ := h.ex
  rw [hQ] at h3
  obtain ⟨a, n, c, rfl⟩ := h3.shape
  obtain ⟨_, _, hv, _⟩ := h3.sl elQ.len
  obtain ⟨-, rfl, -⟩ : a = _ ∧ n = 0 ∧ c = _ := by simpa using hv
  have c1 := cell_of (o := 1) h1 rfl
  clear h h1 h2 h3 h4 h5 h6 h7 hv hQ
  go_enter Try.func15, Try.ntmps15
  go_wp2_with fail
  go_loop [3, 13] (fun ov kv => ov = .slice none 0 0 ∧ kv = .int .i64 0) (fun _ _ => 0)
  case atStart => exact ⟨rfl, rfl⟩
  case round =>
    obtain ⟨rfl, rfl⟩ := hrel
    go_wp2
    go_ret
    exact ⟨rfl, rfl⟩
theorem PtsO.ahead {B : Nat} {w : World} {F : Nat → Prop} {v : Value} {ps : List Pt} (h : PtsO B w v ps) (hF : ∀ b, F b → w.heap.size ≤ b) : PtsA w F v ps := by
  obtain ⟨xs, h1, h2, h3⟩ := h
  refine ⟨xs, h1, h2.sl elPt.len, fun r hr e => ?_, fun x hx => ⟨(h3 x hx).1, fun r hr e => ?_⟩⟩
  · have := h2.lt hr
    have := hF r e
    omega
  · have := ((h3 x hx).2 r hr).2.1
    have := hF r e
    omega
theorem few_len (ps : List Pt) (n : Nat) (odd : Bool) : (fewB ps n odd).length ≤ n := by
  unfold fewB
  rw [List.length_map, List.length_take]
  omega
theorem rsecB_lt {bs : List Nat} (h : ∀ x ∈ bs, x < 256) : ∀ x ∈ rsecB bs, x < 256 := fun x hx => by
  unfold rsecB at hx
  rcases List.mem_append.1 hx with hx | hx
  · exact h x (List.mem_of_mem_take hx)
  · have := List.eq_of_mem_replicate hx
    omega
theorem few_lt {ps : List Pt} (h : ∀ p ∈ ps, ∀ x ∈ p.2, x < 256) (n : Nat) (odd : Bool) : ∀ p ∈ fewB ps n odd, ∀ x ∈ p.2, x < 256 := fun p hp x hx => by
  obtain ⟨q, hq, rfl⟩ := List.mem_map.1 hp
  have hq := h q (List.mem_of_mem_take hq)
  unfold fewP at hx
  simp only at hx
  split at hx
  · exact hq x (List.mem_of_mem_take hx)
  · exact rsecB_lt hq x hx
/-- No fuse burns, the power is on. -/
structure Dsk.calm (d : Dsk) : Prop where
  fuse : d.fused = false
  on : d.off = false
theorem Dsk.calm.step {d : Dsk} (h : Dsk.calm d) : d.step = d := by
  unfold Dsk.step
  rw [if_pos (.inr h.fuse)]
theorem Dsk.calm.dead {d : Dsk} (h : Dsk.calm d) : d.dead = 0 := by
  unfold Dsk.dead
  rw [h.step, if_neg (by rw [h.on]; decide)]
theorem Dsk.calm.write {d : Dsk} (h : Dsk.calm d) (i : Nat) (b : List Nat) : d.write i b = { d with Q := d.Q ++ [(i, b)] } := by
  unfold Dsk.write
  rw [h.step, if_neg (by rw [h.on]; decide)]
theorem Dsk.calm.flush {d : Dsk} (h : Dsk.calm d) : d.flush = { d with L := laid d.Q d.L, Q := [] } := by
  unfold Dsk.flush
  rw [h.step, if_neg (by rw [h.on]; decide)]
theorem newD_calm (n : Nat) : Dsk.calm (newD n) := ⟨rfl, rfl⟩
def ringQ (n : Nat) (ps : List Pc) : List (Nat × List Nat) := ps.map fun q => (2 + q.ct % n, sealB q)
theorem putPcs_calm (n : Nat) : ∀ (ps : List Pc) (d : Dsk), Dsk.calm d → putPcs n ps d = ({ d with Q := d.Q ++ ringQ n ps }, 0)
  | [], d, _ => by simp [putPcs, ringQ]
  | q :: r, d, h => by
    have hc : Dsk.calm { d with Q := d.Q ++ [(2 + q.ct % n, sealB q)] } := ⟨h.fuse, h.on⟩
    simp only [putPcs]
    rw [if_neg (by rw [h.dead]; decide), h.write, putPcs_calm n r _ hc]
    simp [ringQ]
/-- What Write does where no fuse burns. -/
theorem write_calm {l : Lg} {d : Dsk} {ps : List Pt} (h : Dsk.calm d) (he : l.err = 0) (ht : transB ps (l.homes d) = true) {pcs : List Pc} (hc : cutB l.epoch l.next (recB ps) = .ok pcs) (hf : pcs.length ≤ l.free) :
    l.write d ps = ({ l with next := l.next + pcs.length, H := takeH l.H ps }, { d with Q := d.Q ++ ringQ l.n pcs }, 0) := by
  unfold Lg.write
  rw [if_neg (by omega), if_neg (by rw [ht]; decide), hc]
  simp only
  rw [if_neg (by omega), putPcs_calm _ _ _ h]
  simp
theorem write_full {l : Lg} {d : Dsk} {ps : List Pt} (he : l.err = 0) (ht : transB ps (l.homes d) = true) {pcs : List Pc} (hc : cutB l.epoch l.next (recB ps) = .ok pcs) (hf : l.free < pcs.length) : l.write d ps = (l, d, 8) := by
  unfold Lg.write
  rw [if_neg (by omega), if_neg (by rw [ht]; decide), hc]
  simp only
  rw [if_pos hf]
theorem write_arg {l : Lg} {d : Dsk} {ps : List Pt} (he : l.err = 0) (ht : transB ps (l.homes d) = false) : l.write d ps = (l, d, 2) := by
  unfold Lg.write
  rw [if_neg (by omega), if_pos ht]
theorem cut_ok {ps : List Pt} {homes ep ct : Nat} (ht : transB ps homes = true) (he : ep ≤ 16777215) (hc : ct + 1000 ≤ 1099511627775) : cutB ep ct (recB ps) = .ok (cutL ep ct (recB ps)) := by
  have hl := recB_le ht
  unfold cutB
  rw [if_neg (by unfold cutN; omega), if_neg (by omega)]
theorem recN {ps : List Pt} {homes : Nat} (ht : transB ps homes = true) : cutN (recB ps) = ((recB ps).length + 105) / 106 ∧ 1 ≤ ((recB ps).length + 105) / 106 ∧ (recB ps).length ≤ 4000 := by
  have h1 := (transB_iff ps homes).1 ht
  have h2 := recB_len fun p hp => (h1.2.2.1 p hp).2.2
  have h3 := recB_le ht
  unfold cutN
  omega
theorem trans_mono {ps : List Pt} {a b : Nat} (h : transB ps a = true) (hab : a ≤ b) : transB ps b = true := by
  obtain ⟨h1, h2, h3, h4⟩ := (transB_iff ps a).1 h
  exact (transB_iff ps b).2 ⟨h1, h2, fun p hp => ⟨(h3 p hp).1, by have := (h3 p hp).2.1; omega, (h3 p hp).2.2⟩, h4⟩
end Go.Proofs.Ytbkblhoagfonjaa

/- RedoNeeds, walked. -/
namespace Go.Proofs.Ytbkblhoagfonjaa
open Go.RowKit Go.Tn Go.Tn.Bt Go.Tn.Lp Go.Tn.Dk
theorem within_nat (n : Int) {a b : Nat} (h : a ≤ b) : ∃ m : Nat, within n a b = m ∧ a ≤ m ∧ m ≤ b := by
  unfold within
  split
  · exact ⟨a, rfl, Nat.le_refl _, h⟩
  · split
    · exact ⟨b, rfl, h, Nat.le_refl _⟩
    · exact ⟨n.toNat, by omega, by omega, by omega⟩
/-- What the law finds: how many sectors are wanted, what Write answers, what is left. -/
theorem needs_plain {ps : List Pt} {n : Nat} (h2 : 2 ≤ n) (h40 : n ≤ 40) : 
    (transB ps 28 = false ∧ (log0 n 1 0 0).write (newD (n + 30)) ps = (log0 n 1 0 0, newD (n + 30), 2)) ∨
    (transB ps 28 = true ∧ transB ps 4096 = true ∧ n < needB ps ∧ (log0 n 1 0 0).write (newD (n + 30)) ps = (log0 n 1 0 0, newD (n + 30), 8)) ∨
    (transB ps 28 = true ∧ transB ps 4096 = true ∧ needB ps ≤ n ∧ ∃ d', (log0 n 1 0 0).write (newD (n + 30)) ps = ({ log0 n 1 0 0 with next := needB ps, H := takeH (log0 n 1 0 0).H ps }, d', 0)) := by
  have hho : (log0 n 1 0 0).homes (newD (n + 30)) = 28 := by
    show (newD (n + 30)).L.length - 2 - n = 28
    simp [newD]
  cases ht : transB ps 28 with
  | false => exact .inl ⟨rfl, write_arg rfl (by rw [hho]; exact ht)⟩
  | true =>
    have h4 := trans_mono ht (show 28 ≤ 4096 by decide)
    have hc := cut_ok (ep := 1) (ct := 0) ht (by decide) (by decide)
    have hN := recN ht
    have hnd : needB ps = cutN (recB ps) := by unfold needB; rw [if_pos h4, hN.1]
    have hl : (cutL 1 0 (recB ps)).length = needB ps := by rw [cutL_len, hnd]
    have hfr : (log0 n 1 0 0).free = n := rfl
    by_cases hlt : n < needB ps
    · exact .inr (.inl ⟨rfl, h4, hlt, write_full rfl (by rw [hho]; exact ht) hc (by rw [hl, hfr]; exact hlt)⟩)
    · refine .inr (.inr ⟨rfl, h4, by omega, { newD (n + 30) with Q := (newD (n + 30)).Q ++ ringQ n (cutL 1 0 (recB ps)) }, ?_⟩)
      · rw [write_calm (newD_calm _) rfl (by rw [hho]; exact ht) hc (by rw [hl, hfr]; omega), hl]
        simp [log0]
theorem needs_len {ps : List Pt} (h : transB ps 4096 = true) : ((recB ps).length : Int) ≤ 4000 ∧ (((recB ps).length : Int) + 105) / 106 = ((needB ps : Nat) : Int) := by
  have hN := recN h
  unfold needB
  rw [if_pos h]
  omega
theorem needs_zero {ps : List Pt} (h : transB ps 4096 = false) : needB ps = 0 := by
  unfold needB
  rw [if_neg (by rw [h]; decide)]
set_option maxRecDepth 20000 in
set_option maxHeartbeats 4000000 in
theorem needs_walk (w : World) (n : Int) (v : Value) (ps : List Pt) (hp : PtsI w v ps) (hb8 : ∀ p ∈ ps, ∀ x ∈ p.2, x < 256) (odd : Bool) :
    Calls Try.prog 3 #[.int .i64 n, v, .bool odd] w fun e w' => e = .returned (.bool true) ∧ Below w.heap.size w w' := by
  obtain ⟨k, hkw, hk2, hk40⟩ := within_nat n (show 2 ≤ 40 by decide)
  have hfew := few_any w v ps hp 26 (by omega) odd
  have hfl := few_len ps 26 odd
  have hf8 := few_lt hb8 26 odd
  obtain ⟨a0, n0, c0, rfl⟩ : ∃ a n c, v = .slice a n c := by
    obtain ⟨xs, -, ⟨ao, cap, rfl, -⟩, -⟩ := hp
    exact ⟨_, _, _, rfl⟩
  generalize fewB ps 26 odd = qs at *
  have hwi := within_any w n 2 40
  rw [show ((2 : Nat) : Int) = 2 from rfl, show ((40 : Nat) : Int) = 40 from rfl] at hkw
  clear hp hb8
  have hk63 : (k : Int) ≤ 40 := by omega
  have hk0 : (2 : Int) ≤ (k : Int) := by omega
  go_enter Try.func3, Try.ntmps3
  go_wp2_with fail
  refine hfew.mono ?_
  rintro e w1 ⟨v1, rfl, hP1, hb1⟩
  obtain ⟨a1, n1, c1, rfl⟩ := hP1.shape
  clear hfew hwi
  have hwi := within_any w1 n 2 40
  rw [hkw] at hwi
  have hnw := newd_any w1 (k + 30) (by omega) (by omega)
  rw [show ((k + 30 : Nat) : Int) = (k : Int) + 30 by omega] at hnw
  have HKW := Lib.hid hkw
  clear hkw
  go_wp2_with (first
    | (go_at_call 7; refine hwi.mono ?_; rintro e w2 ⟨rfl, hw⟩; obtain rfl := hw.symm; clear hw)
    | fail)
  refine hnw.mono ?_
  rintro e w2 ⟨p, F, rfl, hD, hb2, hF⟩
  clear hnw hwi
  have ho := open_main hD k hk2 (by simp [newD]) (by omega) (by rw [newest_zero _ _ (by omega)]; decide) _ (open_new hk2 (by omega))
  go_wp2_with fail
  refine ho.mono ?_
  rintro e w3 ⟨g, G, rfl, hL, hb3, hG⟩
  clear ho
  have hD3 := hD.below hb3
  have hFG : ∀ b, G b → ¬ F b := fun b h1 h2 => absurd (hD.lt b h2) (Nat.not_lt.2 (hG b h1))
  have hb13 : Below w1.heap.size w1 w3 := hb2.trans (hb3.mono hb2.size)
  have hPA : PtsA w3 (fun b => G b ∨ F b) (.slice a1 n1 c1) qs := (hP1.ahead (F := fun b => G b ∨ F b) fun b h => by
    rcases h with h | h
    · have := hG b h; have := hb2.size; omega
    · exact hF b h).below hb13
  have hlow : ∀ b, G b ∨ F b → w.heap.size ≤ b := fun b h => by
    have := hb1.size
    rcases h with h | h
    · have := hG b h; have := hb2.size; omega
    · have := hF b h; omega
  have hb03 : Below w.heap.size w w3 := hb1.trans (hb13.mono hb1.size)
  have hlok : (log0 k 1 0 0).ok (newD (k + 30)) := (log0_fit (d := newD (k + 30)) hk2 (by simp [newD]) (by decide) (by decide)).ok (show 0 < 1099511627776 by decide)
  have his4 := ris_any w3 _ qs hPA.rd 4096 (by decide)
  rw [show ((4096 : Nat) : Int) = 4096 from rfl] at his4
  have HL := Lib.hid hL
  have HD := Lib.hid hD3
  have HFG := Lib.hid hFG
  have HPA := Lib.hid hPA
  have HF8 := Lib.hid hf8
  have HFL := Lib.hid hfl
  have HLOW := Lib.hid hlow
  have HB := Lib.hid hb03
  have HOK := Lib.hid hlok
  clear hb1 hP1 hb2 hF hD hb3 hG hL hD3 hFG hb13 hPA hlow hb03 hlok hf8 hfl
  go_upto_if 34 with (first
    | (go_at_call 10; refine his4.mono ?_; rintro e w4 ⟨rfl, hb4⟩; have HB4 := Lib.hid hb4; clear hb4)
    | fail)
  go_cut [11] (fun s wx => s = .int .i64 (needB qs : Nat) ∧ Below w3.heap.size w3 wx)
  case first =>
    cases ht : transB qs 4096 with
    | false =>
      have HZ := Lib.hid (needs_zero ht)
      go_wp2_with fail
      go_meet
      case rel => exact ⟨by rw [HZ.out]; rfl, HB4.out⟩
    | true =>
      have hz := needs_len ht
      have hre := rrecord_any w4 _ qs ((HPA.out.below HB4.out).rd) (fit_of_trans ht (by decide) HF8.out) ((transB_iff qs 4096).1 ht).2.1
      obtain ⟨hz1, hz2⟩ := hz
      have HZ2 := Lib.hid hz2
      clear hz2
      go_wp2_with fail
      refine hre.mono ?_
      rintro e w5 ⟨v5, rfl, hO5, hb5⟩
      obtain ⟨a5, c5, rfl, h51, h52, -⟩ := hO5.sl el8.len
      clear hre h51 h52 hO5
      have hz0 : (0 : Int) ≤ ((recB qs).length : Int) := by omega
      go_wp2_with fail
      go_meet
      case rel => exact ⟨by rw [HZ2.out], HB4.out.trans (hb5.mono HB4.out.size)⟩
  case rest =>
    obtain ⟨rfl, hBc⟩ := hcut
    clear his4
    have hLc := HL.out.below hBc
    have hDc := HD.out.below hBc
    have hPc := HPA.out.below hBc
    have hwr := gwrite_any hLc hDc HFG.out HOK.out _ qs hPc HF8.out (by have := HFL.out; omega) (by simp [newD])
    have HB' := Lib.hid (HB.out.trans (hBc.mono HB.out.size))
    have hlow' : ∀ b, G b ∨ F b → w.heap.size ≤ b := HLOW.out
    clear HB HL HD HPA hBc
    have hnb : needB qs ≤ 41 := by
      cases ht : transB qs 4096 with
      | false => rw [needs_zero ht]; decide
      | true =>
        have := needs_len ht
        omega
    have hm63 : ((needB qs : Nat) : Int) ≤ 41 := by omega
    rcases needs_plain (ps := qs) hk2 hk40 with ⟨ht8, hw8⟩ | ⟨ht8, -, hlt, hw8⟩ | ⟨ht8, -, hle, d', hw8⟩
    · skip
      rw [hw8] at hwr
      go_wp2_with fail
      refine hwr.mono ?_
      rintro e w6 ⟨rfl, G6, F6, hL6, hD6, hm6, hG6, hF6, hGF6⟩
      have hPI : PtsI w6 (.slice a1 n1 c1) qs := (hPc.mod hm6 fun b h => h).rd
      have HIS : Hid (∀ W, Below w6.heap.size w6 W → Calls Try.prog 10 #[.slice a1 n1 c1, .int .i64 28] W fun e w' => e = .returned (.bool false) ∧ Below W.heap.size W w') := Lib.hid fun W hW => by
        have h := ris_any W _ qs (hPI.below hW) 28 (by decide)
        rwa [ht8] at h
      have HND : Hid (∀ W, Below w6.heap.size w6 W → Calls Try.prog 13 #[.slice a1 n1 c1] W fun e w' => e = .returned (.int .i64 (needB qs : Nat)) ∧ Below W.heap.size W w') := Lib.hid fun W hW => need_any W _ qs (hPI.below hW) HF8.out (by have := HFL.out; omega)
      have HFR : Hid (∀ W, Below w6.heap.size w6 W → Calls Try.prog 14 #[.pointer (some ⟨g, 0, none⟩)] W fun e w' => e = .returned (.int .i64 (k : Nat)) ∧ Below W.heap.size W w') := Lib.hid fun W hW => by
        have h := free_any (hL6.below hW) (by simp [log0]) (by simp [log0]; try omega) (by simp [log0]; try omega) (by simp only [log0]; omega)
        rwa [show (log0 k 1 0 0).free = k from rfl] at h
      have HWA : Hid (∀ W, Below w6.heap.size w6 W → Calls Try.prog 15 #[.pointer (some ⟨p, 0, none⟩)] W fun e w' => e = .returned (.slice none 0 0) ∧ w' = W) := Lib.hid fun W hW => waits_none (hD6.below hW) rfl
      have HB6 : Hid (Below w.heap.size w w6) := Lib.hid (HB'.out.trans (hm6.below HB'.out.size fun x hx hS => absurd hx (Nat.not_lt.2 (hlow' x hS))))
      clear hL6 hD6 hm6 hG6 hF6 hGF6 hPI hPc hLc hDc hwr hw8 ht8 hlow'
      go_wp2_with (first
        | (go_at_call 10; refine (HIS.out _ (Below.refl _ _)).mono ?_; rintro e w7 ⟨rfl, hb7⟩; have HB7 := Lib.hid hb7; clear hb7)
        | (go_at_call 13; refine (HND.out _ HB7.out).mono ?_; rintro e w8 ⟨rfl, hb8⟩; have HB8 := Lib.hid (HB7.out.trans (hb8.mono HB7.out.size)); clear hb8)
        | (go_at_call 14; refine (HFR.out _ HB8.out).mono ?_; rintro e w9 ⟨rfl, hb9⟩; have HB9 := Lib.hid (HB8.out.trans (hb9.mono HB8.out.size)); clear hb9)
        | (go_at_call 15; refine (HWA.out _ HB9.out).mono ?_; rintro e w10 ⟨rfl, hw⟩; obtain rfl := hw.symm; clear hw)
        | (go_at_call 16; refine (lives_any _).mono ?_; rintro e w11 ⟨rfl, hb11⟩; have HB11 := Lib.hid (HB9.out.trans (hb11.mono HB9.out.size)); clear hb11)
        | fail)
      go_ret
      exact ⟨rfl, HB6.out.trans (HB11.out.mono HB6.out.size)⟩
    · have hd8 : decide (k < needB qs) = true := by simp [hlt]
      rw [hw8] at hwr
      go_wp2_with fail
      refine hwr.mono ?_
      rintro e w6 ⟨rfl, G6, F6, hL6, hD6, hm6, hG6, hF6, hGF6⟩
      have hPI : PtsI w6 (.slice a1 n1 c1) qs := (hPc.mod hm6 fun b h => h).rd
      have HIS : Hid (∀ W, Below w6.heap.size w6 W → Calls Try.prog 10 #[.slice a1 n1 c1, .int .i64 28] W fun e w' => e = .returned (.bool true) ∧ Below W.heap.size W w') := Lib.hid fun W hW => by
        have h := ris_any W _ qs (hPI.below hW) 28 (by decide)
        rwa [ht8] at h
      have HND : Hid (∀ W, Below w6.heap.size w6 W → Calls Try.prog 13 #[.slice a1 n1 c1] W fun e w' => e = .returned (.int .i64 (needB qs : Nat)) ∧ Below W.heap.size W w') := Lib.hid fun W hW => need_any W _ qs (hPI.below hW) HF8.out (by have := HFL.out; omega)
      have HFR : Hid (∀ W, Below w6.heap.size w6 W → Calls Try.prog 14 #[.pointer (some ⟨g, 0, none⟩)] W fun e w' => e = .returned (.int .i64 (k : Nat)) ∧ Below W.heap.size W w') := Lib.hid fun W hW => by
        have h := free_any (hL6.below hW) (by simp [log0]) (by simp [log0]; try omega) (by simp [log0]; try omega) (by simp only [log0]; omega)
        rwa [show (log0 k 1 0 0).free = k from rfl] at h
      have HWA : Hid (∀ W, Below w6.heap.size w6 W → Calls Try.prog 15 #[.pointer (some ⟨p, 0, none⟩)] W fun e w' => e = .returned (.slice none 0 0) ∧ w' = W) := Lib.hid fun W hW => waits_none (hD6.below hW) rfl
      have HB6 : Hid (Below w.heap.size w w6) := Lib.hid (HB'.out.trans (hm6.below HB'.out.size fun x hx hS => absurd hx (Nat.not_lt.2 (hlow' x hS))))
      clear hL6 hD6 hm6 hG6 hF6 hGF6 hPI hPc hLc hDc hwr hw8 ht8 hlow'
      go_wp2_with (first
        | (go_at_call 10; refine (HIS.out _ (Below.refl _ _)).mono ?_; rintro e w7 ⟨rfl, hb7⟩; have HB7 := Lib.hid hb7; clear hb7)
        | (go_at_call 13; refine (HND.out _ HB7.out).mono ?_; rintro e w8 ⟨rfl, hb8⟩; have HB8 := Lib.hid (HB7.out.trans (hb8.mono HB7.out.size)); clear hb8)
        | (go_at_call 14; refine (HFR.out _ HB8.out).mono ?_; rintro e w9 ⟨rfl, hb9⟩; have HB9 := Lib.hid (HB8.out.trans (hb9.mono HB8.out.size)); clear hb9)
        | (go_at_call 15; refine (HWA.out _ HB9.out).mono ?_; rintro e w10 ⟨rfl, hw⟩; obtain rfl := hw.symm; clear hw)
        | (go_at_call 16; refine (lives_any _).mono ?_; rintro e w11 ⟨rfl, hb11⟩; have HB11 := Lib.hid (HB9.out.trans (hb11.mono HB9.out.size)); clear hb11)
        | fail)
      go_ret
      exact ⟨rfl, HB6.out.trans (HB11.out.mono HB6.out.size)⟩
    · have hd8 : decide (k < needB qs) = false := by simp; omega
      have hk1 : (0 : Int) ≤ (k : Int) - needB qs := by omega
      rw [hw8] at hwr
      go_wp2_with fail
      refine hwr.mono ?_
      rintro e w6 ⟨rfl, G6, F6, hL6, hD6, hm6, hG6, hF6, hGF6⟩
      have hPI : PtsI w6 (.slice a1 n1 c1) qs := (hPc.mod hm6 fun b h => h).rd
      have HIS : Hid (∀ W, Below w6.heap.size w6 W → Calls Try.prog 10 #[.slice a1 n1 c1, .int .i64 28] W fun e w' => e = .returned (.bool true) ∧ Below W.heap.size W w') := Lib.hid fun W hW => by
        have h := ris_any W _ qs (hPI.below hW) 28 (by decide)
        rwa [ht8] at h
      have HND : Hid (∀ W, Below w6.heap.size w6 W → Calls Try.prog 13 #[.slice a1 n1 c1] W fun e w' => e = .returned (.int .i64 (needB qs : Nat)) ∧ Below W.heap.size W w') := Lib.hid fun W hW => need_any W _ qs (hPI.below hW) HF8.out (by have := HFL.out; omega)
      have HFR : Hid (∀ W, Below w6.heap.size w6 W → Calls Try.prog 14 #[.pointer (some ⟨g, 0, none⟩)] W fun e w' => e = .returned (.int .i64 ((k : Int) - needB qs)) ∧ Below W.heap.size W w') := Lib.hid fun W hW => by
        have h := free_any (hL6.below hW) (by simp [log0]) (by simp [log0]; try omega) (by simp [log0]; try omega) (by simp only [log0]; omega)
        rwa [show (({ log0 k 1 0 0 with next := needB qs, H := takeH (log0 k 1 0 0).H qs } : Lg).free : Int) = (k : Int) - needB qs from by simp [Lg.free, log0]; omega] at h
      have HB6 : Hid (Below w.heap.size w w6) := Lib.hid (HB'.out.trans (hm6.below HB'.out.size fun x hx hS => absurd hx (Nat.not_lt.2 (hlow' x hS))))
      clear hL6 hD6 hm6 hG6 hF6 hGF6 hPI hPc hLc hDc hwr hw8 ht8 hlow'
      go_wp2_with (first
        | (go_at_call 10; refine (HIS.out _ (Below.refl _ _)).mono ?_; rintro e w7 ⟨rfl, hb7⟩; have HB7 := Lib.hid hb7; clear hb7)
        | (go_at_call 13; refine (HND.out _ HB7.out).mono ?_; rintro e w8 ⟨rfl, hb8⟩; have HB8 := Lib.hid (HB7.out.trans (hb8.mono HB7.out.size)); clear hb8)
        | (go_at_call 14; refine (HFR.out _ HB8.out).mono ?_; rintro e w9 ⟨rfl, hb9⟩; have HB9 := Lib.hid (HB8.out.trans (hb9.mono HB8.out.size)); clear hb9)
        | (go_at_call 16; refine (lives_any _).mono ?_; rintro e w11 ⟨rfl, hb11⟩; have HB11 := Lib.hid (HB9.out.trans (hb11.mono HB9.out.size)); clear hb11)
        | fail)
      go_ret
      exact ⟨rfl, HB6.out.trans (HB11.out.mono HB6.out.size)⟩
end Go.Proofs.Ytbkblhoagfonjaa

/- Proved: RedoNeeds returns true and its arguments read as they did. No condition: of all numbers, puts. -/
namespace Go.Proofs.Ytbkblhoagfonjaa
open Go.ChangeShapes Go.WideShapes Go.ChangeAt Go.RowKit Go.Tn Go.Joins

set_option maxRecDepth 100000 in
theorem needs_lifted (os : Os) (started : os.Started) (H : Type) (enc : TypeId × Value → H) :
    ReturnsInHanded {} Try.checked os 3 .any (Rows.redoNeedsSpec.pre6 enc Try.prog Try.f3 Rows.redoNeedsRow.domain false) (Rows.redoNeedsSpec.post enc Try.prog Try.f3 false true false false) := by
  refine returnsInHanded_of_change (C := Try.checked) Try.own started (by kernel_rfl) Try.func3
    (ChangeSpec.witness6 (enc := enc) (C := Try.checked) false ⟨#[], #[.int .i64 0, .slice none 0 0, .bool false], []⟩ 8 (by kernel_rfl) (by kernel_rfl) (by kernel_rfl) (by kernel_rfl)) ?_
  intro W base args ds gs before hval0 hW hcnd _
  have hval : ∀ (j : Nat) t v, Try.f3.params[j]? = some t → args[j]? = some v → Value.okWide Try.prog W .any base t v := hval0
  have hW' := hW
  obtain ⟨p, q, hA0, hV, rfl, hfz, hnd⟩ := hW
  have hA : DataW.TrodAll enc Try.prog W 0 (fun _ => true) true Try.f3.params.toList args.toList ds p := hA0
  rw [Try.params3] at hA hval
  obtain ⟨v0, vs0, d0, ds0, p0, q0, hargs, rfl, rfl, h0, r0⟩ := trodAll_cons hA
  obtain ⟨v1, vs1, d1, ds1, p1, q1, rfl, rfl, rfl, h1, r1⟩ := trodAll_cons r0
  obtain ⟨v2, vs2, d2, ds2, p2, q2, rfl, rfl, rfl, h2, r2⟩ := trodAll_cons r1
  obtain ⟨rfl, rfl, rfl⟩ := trodAll_nil r2
  obtain rfl : args = #[v0, v1, v2] := by cases args; simp_all
  obtain ⟨rfl, rfl⟩ := trodVars_none hV
  obtain ⟨a0, rfl, rfl, rfl, w0⟩ := open_int Try.underlying3 (hval 0 3 v0 rfl rfl) h0
  obtain ⟨a1, len1, cap1, rfl⟩ := okWide_slice Try.underlying22 (hval 1 22 v1 rfl rfl)
  have k1 := h1
  have lt1 : ∀ x ∈ p1, x.block < W.heap.size := by obtain ⟨m, hm⟩ := k1; exact DataW.trod_lt m _ _ _ hm
  obtain ⟨qs, hqs, h8⟩ := puts_of h1
  obtain ⟨a2, rfl, rfl, rfl⟩ := open_bool Try.underlying4 (hval 2 4 v2 rfl rfl) h2
  clear hA0 hval0
  refine (needs_walk W a0 _ qs hqs h8 a2).mono fun e W' ⟨he, bel⟩ => ?_
  subst he
  exact ⟨_, rfl, _, _, _, [], _, [], hW', trodAll_mk1 (shut_bool Try.underlying4 _), (trodAll_cons_mk (shut_int Try.underlying3 w0) (trodAll_cons_mk (Below.trod Try.laidOut (by kernel_rfl) (of_decide_eq_true (by kernel_rfl)) k1 bel lt1) (trodAll_cons_mk (shut_bool Try.underlying4 _) trodAll_mk0))), rfl, bel.frame _, fun h => by cases h⟩

theorem needs_holds : Rows.RedoNeedsSaid :=
  OpenClaim.holds_of_wide 3 Try.f3 rfl rfl rfl rfl rfl rfl rfl ⟨rfl, rfl, rfl, rfl, rfl⟩ rfl rfl rfl rfl rfl (by kernel_rfl) Try.func3 (by kernel_rfl)
    (of_decide_eq_true (by kernel_rfl)) (by unfold Func.isWrapper; first | (rw [if_pos (by decide +kernel)]; kernel_rfl) | (rw [if_neg (by decide +kernel)]; exact ⟨rfl, rfl⟩))
    (fun os started H enc _ => needs_lifted os started H enc)

end Go.Proofs.Ytbkblhoagfonjaa
