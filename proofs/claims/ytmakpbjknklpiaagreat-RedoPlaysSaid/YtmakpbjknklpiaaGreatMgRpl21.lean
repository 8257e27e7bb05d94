/- The homes that transactions in the ring have, rising; in plain words, by the library. -/
import Derived.Test.YtmakpbjknklpiaaGreatMgRpl20
import Derived.Shelf.Sort.Plain
import Derived.Shelf.Slices.In.SortNone
import Derived.Shelf.Bytes.Small
import Derived.Shelf.SlIterI.Nil
import Derived.Ground.GgzProg
import Derived.Test.YtmakpbjknklpiaaGreatProg
import Derived.Test.YtmakpbjknklpiaaGreatMgRpl18
/- The document's Record, Is; the disk's Waits: walked. -/
namespace Go.Proofs.YtmakpbjknklpiaaGreat
open Go.RowKit Go.Tn Go.Tn.Bt Go.Tn.Lp Go.Tn.Dk
set_option maxRecDepth 20000 in
set_option maxHeartbeats 4000000 in
theorem rrecord_any (w : World) (v : Value) (ps : List Pt) (hp : PtsI w v ps) (hf : ∀ p ∈ ps, fitP p) (hn : ps.length ≤ 24) : Calls Tryz.prog 58 #[v] w
    fun e w' => ∃ v', e = .returned v' ∧ LOut en8 1 5 w.heap.size w' v' (recB ps) ∧ Below w.heap.size w w' := by
  obtain ⟨xs, hxs, hL, hD⟩ := hp
  have hxl : xs.length = ps.length := by rw [← hxs]; simp
  obtain ⟨ao, cap, rfl, h1, h2, h3⟩ := hL
  rw [hxl] at h1 h3 ⊢
  unfold maxLen at h2
  have HXS := Lib.hid hxs
  have HD := Lib.hid hD
  have HXL := Lib.hid hxl
  have HF := Lib.hid hf
  clear hxs hD hxl hf
  have hl63 : (ps.length : Int) ≤ 24 := by omega
  have hl64 : (ps.length : Int) % 18446744073709551616 = (ps.length : Int) := by omega
  have hbt := rbits_any w ps.length 8 (by omega) (by omega)
  rw [show ((8 : Nat) : Int) = 8 from rfl] at hbt
  go_enter Tryz.func58, Tryz.ntmps58
  go_wp2_with fail
  refine hbt.mono ?_
  rintro e w1 ⟨v1, rfl, hO1, hb1⟩
  obtain ⟨a1, n1, c1, rfl⟩ := LOut.shape hO1
  have HO1 := Lib.hid hO1
  have HB1 := Lib.hid hb1
  clear hO1 hb1 hbt hl64
  go_wp2
  go_loopw [3, 4] (fun ov iv wi => ∃ k : Nat, k ≤ ps.length ∧ iv = .int .i64 k ∧ LOut en8 1 5 w.heap.size wi ov (b01 (bitsN ps.length 8 ++ (ps.take k).flatMap putBits)) ∧ Below w.heap.size w wi) (fun _ iv _ => ps.length - (intOf iv).toNat)
  case atStart => exact ⟨0, Nat.zero_le _, rfl, by simpa using HO1.out, HB1.out⟩
  case round =>
    obtain ⟨k, hk, rfl, hO, hb⟩ := hrel
    by_cases hlt : k < ps.length
    · have hd1 : decide (k < ps.length) = true := by simp [hlt]
      obtain ⟨x, hx⟩ : ∃ x, xs[k]? = some x := ⟨_, List.getElem?_eq_getElem (by rw [HXL.out]; exact hlt)⟩
      obtain ⟨b, off, rfl, hbl, hcells⟩ := h3 (by omega)
      have hlies := (hcells k x hx).below' hb hbl
      have hpx : ps[k]? = some x.1 := by rw [← HXS.out, List.getElem?_map, hx]; rfl
      have hdx := HD.out x (List.mem_of_getElem? hx)
      have hfx := HF.out _ (List.mem_of_getElem? hpx)
      have hlc := fun (W : World) (hW : Below w.heap.size w W) => (hcells k x hx).below' hW hbl
      obtain ⟨⟨at_, dat⟩, ⟨a4, n4, c4⟩⟩ := x
      obtain ⟨f1, f2, f3, f4⟩ := hfx
      simp only at f1 f2 f3 f4
      obtain ⟨at_, rfl⟩ := Int.eq_ofNat_of_zero_le f1
      have q0 : wr.cell? ⟨b, off + k * 2, none⟩ = some (.int .i64 (at_ : Nat)) := hlies 0 (by simp [enPt])
      have hsn : b01 (bitsN ps.length 8 ++ (ps.take (k + 1)).flatMap putBits) = b01 (bitsN ps.length 8 ++ (ps.take k).flatMap putBits) ++ b01 (bitsN at_ 12) ++ b01 (unpack dat) := by
        rw [take_snoc hpx, List.flatMap_append, b01_append, b01_append, b01_append]
        simp only [List.flatMap_cons, List.flatMap_nil, List.append_nil, putBits, b01_append, Int.toNat_natCast, List.append_assoc]
        rfl
      have hll : (b01 (bitsN ps.length 8 ++ (ps.take k).flatMap putBits)).length = 8 + 1036 * k := by
        rw [b01_len, List.length_append, bitsN_len, puts_len _ fun p hp => (HF.out p (List.mem_of_mem_take hp)).2.2.1, List.length_take, Nat.min_eq_left (by omega)]
      obtain ⟨ls, hls⟩ : ∃ ls, b01 (bitsN ps.length 8 ++ (ps.take k).flatMap putBits) = ls := ⟨_, rfl⟩
      rw [hls] at hO hsn hll
      have hbt := rbits_any wr at_ 12 (by omega) (by omega)
      rw [show ((12 : Nat) : Int) = 12 from rfl] at hbt
      have ha63 : (at_ : Int) ≤ 4095 := by omega
      have ha64 : (at_ : Int) % 18446744073709551616 = (at_ : Int) := by omega
      have hll1 : ls.length + (b01 (bitsN at_ 12)).length ≤ 100000 := by rw [hll, b01_len, bitsN_len]; omega
      have hll2 : (ls ++ b01 (bitsN at_ 12)).length + (b01 (unpack dat)).length ≤ 100000 := by rw [List.length_append, hll, b01_len, b01_len, bitsN_len, unpack_len, f3]; omega
      have HSN := Lib.hid hsn
      have HLC := Lib.hid hlc
      have HDX := Lib.hid hdx
      have HF3 := Lib.hid f3
      have HF4 := Lib.hid f4
      obtain ⟨a3, n3, c3, rfl⟩ := LOut.shape hO
      have HO := Lib.hid hO
      have HB := Lib.hid hb
      clear hO hb hx hcells hlies hpx hdx hlc hsn hls hll f1 f2 f3 f4
      go_wp2_with fail
      refine hbt.mono ?_
      rintro e w2 ⟨v2, rfl, hO2, hb2⟩
      obtain ⟨a2, n2, c2, rfl⟩ := LOut.shape hO2
      have HO2 := Lib.hid hO2
      have HB2 := Lib.hid hb2
      clear hO2 hb2 hbt q0 ha64
      go_upto_region 6 with (first
        | ((with_reducible refine wpList_appendN el8 (HO.out.below HB2.out) (HO2.out.sl el8.len) hll1 ?_ ?_ ?_); rfl; rfl; (intro v5 w5 hO5 hg5 hl5; obtain ⟨a5, n5, c5, rfl⟩ := LOut.shape hO5; have HO5 := Lib.hid hO5; have HG5 := Lib.hid hg5; clear hO5 hg5 hl5); go_frame)
        | fail)
      have hB5 : Below w.heap.size w w5 := (HB.out.trans (HB2.out.mono HB.out.size)).grown HG5.out (Nat.le_trans HB.out.size HB2.out.size) HO.out.lo
      have q1 : w5.cell? ⟨b, off + k * 2 + 1, none⟩ = some (.slice a4 n4 c4) := (HLC.out _ hB5) 1 (by simp [enPt])
      have hd5 : LSl en8 1 w5 (.slice a4 n4 c4) dat := LSl.below HDX.out hB5
      have hof := rof_any w5 _ dat hd5 HF4.out (by rw [HF3.out]; omega)
      have HB5 := Lib.hid hB5
      clear hB5 hd5
      go_wp2_with fail
      refine hof.mono ?_
      rintro e w6 ⟨v6, rfl, hO6, hb6⟩
      obtain ⟨a6, n6, c6, rfl⟩ := LOut.shape hO6
      have HO6 := Lib.hid hO6
      have HB6 := Lib.hid hb6
      clear hO6 hb6 hof q1
      go_wp2_with (first
        | ((with_reducible refine wpList_appendN el8 (HO5.out.below HB6.out) (HO6.out.sl el8.len) hll2 ?_ ?_ ?_); rfl; rfl; (intro v7 w7 hO7 hg7 hl7; have HO7 := Lib.hid hO7; have HG7 := Lib.hid hg7; clear hO7 hg7 hl7); go_frame)
        | fail)
      go_roundw
      case rel =>
        refine ⟨k + 1, by omega, by go_num, by rw [HSN.out]; exact HO7.out, ?_⟩
        exact (HB5.out.trans (HB6.out.mono HB5.out.size)).grown HG7.out (Nat.le_trans HB5.out.size HB6.out.size) HO5.out.lo
      case measure => simp [intOf]; omega
    · obtain rfl : k = ps.length := by omega
      have hd1 : decide (ps.length < ps.length) = false := by simp
      rw [List.take_length] at hO
      have hle : (bitsN ps.length 8 ++ ps.flatMap putBits).length ≤ 80000 := by
        rw [List.length_append, bitsN_len, puts_len _ fun p hp => (HF.out p hp).2.2.1]
        omega
      have hby := rbytes_any wr _ _ (hO.sl el8.len) hle
      obtain ⟨a3, n3, c3, rfl⟩ := LOut.shape hO
      have HB := Lib.hid hb
      clear hO hb
      go_wp2_with fail
      refine hby.mono ?_
      rintro e w2 ⟨v2, rfl, hO2, hb2⟩
      obtain ⟨a2, n2, c2, rfl⟩ := LOut.shape hO2
      have HO2 := Lib.hid hO2
      have HB2 := Lib.hid hb2
      clear hO2 hb2 hby
      go_wp2
      go_ret
      exact ⟨_, rfl, HO2.out.mono HB.out.size, HB.out.trans (HB2.out.mono HB.out.size)⟩
theorem trans_len {ps : List Pt} {homes : Nat} (h : ¬ (1 ≤ ps.length ∧ ps.length ≤ 24)) : transB ps homes = false := by
  cases hb : transB ps homes with
  | false => rfl
  | true =>
    have := (transB_iff ps homes).1 hb
    exact absurd ⟨this.1, this.2.1⟩ h
theorem mem_take_fst {ps : List Pt} {k j : Nat} {q : Pt} (hj : j < k) (hq : ps[j]? = some q) : q.1 ∈ (ps.take k).map (·.1) :=
  List.mem_map.2 ⟨q, List.mem_of_getElem? (i := j) (by rw [List.getElem?_take, if_pos hj]; exact hq), rfl⟩
set_option maxRecDepth 20000 in
set_option maxHeartbeats 4000000 in
theorem ris_any (w : World) (v : Value) (ps : List Pt) (hp : PtsI w v ps) (homes : Nat) (hh : homes ≤ 100000) : Calls Tryz.prog 56 #[v, .int .i64 homes] w
    fun e w' => e = .returned (.bool (transB ps homes)) ∧ Below w.heap.size w w' := by
  obtain ⟨xs, hxs, hL, hD⟩ := hp
  have hxl : xs.length = ps.length := by rw [← hxs]; simp
  obtain ⟨ao, cap, rfl, h1, h2, h3⟩ := hL
  rw [hxl] at h1 h3 ⊢
  unfold maxLen at h2
  have HXS := Lib.hid hxs
  have HD := Lib.hid hD
  have HXL := Lib.hid hxl
  clear hxs hD hxl
  have hl64 : (ps.length : Int) ≤ 9223372036854775807 := by omega
  by_cases hlo : ps.length < 1
  · have hz : decide ((ps.length : Int) < 1) = true := by simp; omega
    rw [trans_len (by omega)]
    go_enter Tryz.func56, Tryz.ntmps56
    go_wp2
    go_ret
    exact ⟨rfl, Below.refl _ _⟩
  by_cases hhi : 24 < ps.length
  · have hz : decide ((ps.length : Int) < 1) = false := by simp; omega
    have hz2 : decide ((24 : Int) < (ps.length : Int)) = true := by simp; omega
    rw [trans_len (by omega)]
    go_enter Tryz.func56, Tryz.ntmps56
    go_wp2
    go_ret
    exact ⟨rfl, Below.refl _ _⟩
  have hz : decide ((ps.length : Int) < 1) = false := by simp; omega
  have hz2 : decide ((24 : Int) < (ps.length : Int)) = false := by simp; omega
  have hl63 : (ps.length : Int) ≤ 24 := by omega
  have hh63 : (homes : Int) ≤ 100000 := by omega
  go_enter Tryz.func56, Tryz.ntmps56
  go_wp2
  go_loopw [5] (fun iv wi => ∃ k : Nat, k ≤ ps.length ∧ iv = .int .i64 k ∧ (∀ p ∈ ps.take k, goodP p homes) ∧ ((ps.take k).map (·.1)).Nodup ∧ Below w.heap.size w wi) (fun iv _ => ps.length - (intOf iv).toNat)
  case atStart => exact ⟨0, Nat.zero_le _, rfl, (fun p hp => by cases hp), List.nodup_nil, Below.refl _ _⟩
  case round =>
    obtain ⟨k, hk, rfl, hg, hnd, hb⟩ := hrel
    by_cases hlt : k < ps.length
    · have hd1 : decide (k < ps.length) = true := by simp [hlt]
      obtain ⟨x, hx⟩ : ∃ x, xs[k]? = some x := ⟨_, List.getElem?_eq_getElem (by rw [HXL.out]; exact hlt)⟩
      obtain ⟨b, off, rfl, hbl, hcells⟩ := h3 (by omega)
      have hlies := (hcells k x hx).below' hb hbl
      have hpx : ps[k]? = some x.1 := by rw [← HXS.out, List.getElem?_map, hx]; rfl
      obtain ⟨da, dc, hdv, -, hd2, -⟩ := HD.out x (List.mem_of_getElem? hx)
      obtain ⟨⟨at_, dat⟩, ⟨a1, n1, c1⟩⟩ := x
      obtain ⟨rfl, rfl, rfl⟩ : a1 = da ∧ n1 = dat.length ∧ c1 = dc := by simpa [sv] using hdv
      simp only at hd2 hpx
      unfold maxLen at hd2
      have q0 : wr.cell? ⟨b, off + k * 2, none⟩ = some (.int .i64 at_) := hlies 0 (by simp [enPt])
      have q1 : wr.cell? ⟨b, off + k * 2 + 1, none⟩ = some (.slice a1 dat.length c1) := hlies 1 (by simp [enPt, sv])
      have hts := take_snoc hpx
      have HG := Lib.hid hg
      have HND := Lib.hid hnd
      have HB := Lib.hid hb
      have HPX := Lib.hid hpx
      have HTS := Lib.hid hts
      have HCE := Lib.hid hcells
      have hbr : b < wr.heap.size := Nat.lt_of_lt_of_le hbl hb.size
      clear hg hnd hb hpx hts hcells hlies hx hdv hd2
      by_cases hA : at_ < 0
      · have hA' : decide (at_ < 0) = true := by simp [hA]
        have HBAD := Lib.hid (trans_bad (homes := homes) HPX.out fun e => absurd e.1 (by simp only; omega))
        go_wp2
        go_ret
        rw [HBAD.out]
        exact ⟨rfl, HB.out⟩
      have hA' : decide (at_ < 0) = false := by simp; omega
      by_cases hH : (homes : Int) ≤ at_
      · have hH' : decide ((homes : Int) ≤ at_) = true := by simp [hH]
        have HBAD := Lib.hid (trans_bad (homes := homes) HPX.out fun e => absurd e.2.1 (by simp only; omega))
        go_wp2
        go_ret
        rw [HBAD.out]
        exact ⟨rfl, HB.out⟩
      have hH' : decide ((homes : Int) ≤ at_) = false := by simp; omega
      by_cases hC : dat.length = 128
      rotate_left
      · have hC' : ((dat.length : Int) != 128) = true := by rw [bne_iff_ne]; omega
        have HBAD := Lib.hid (trans_bad (homes := homes) HPX.out fun e => absurd e.2.2 hC)
        go_wp2
        go_ret
        rw [HBAD.out]
        exact ⟨rfl, HB.out⟩
      have hC' : ((dat.length : Int) != 128) = false := by rw [bne_eq_false_iff_eq]; omega
      have HC := Lib.hid hC
      have HLT := Lib.hid hlt
      clear hC
      go_wp2
      go_loopw [6] (fun jv wj => ∃ j : Nat, j ≤ k ∧ jv = .int .i64 j ∧ (∀ i q, i < j → ps[i]? = some q → q.1 ≠ at_) ∧ Below w.heap.size w wj) (fun jv _ => k - (intOf jv).toNat)
      case atStart => exact ⟨0, Nat.zero_le _, rfl, (fun i q hi => absurd hi (Nat.not_lt_zero _)), HB.out⟩
      case round =>
        obtain ⟨j, hj, rfl, hno, hbj⟩ := hrel
        by_cases hjk : j < k
        · have hdj : decide (j < k) = true := by simp [hjk]
          obtain ⟨y, hy⟩ : ∃ y, xs[j]? = some y := ⟨_, List.getElem?_eq_getElem (by rw [HXL.out]; omega)⟩
          have hpy : ps[j]? = some y.1 := by rw [← HXS.out, List.getElem?_map, hy]; rfl
          have hly := (HCE.out j y hy).below' hbj hbl
          obtain ⟨x, hx⟩ : ∃ x, xs[k]? = some x := ⟨_, List.getElem?_eq_getElem (by rw [HXL.out]; exact HLT.out)⟩
          have hlx := (HCE.out k x hx).below' hbj hbl
          have hxa : x.1.1 = at_ := by
            have h1 : ps[k]? = some x.1 := by rw [← HXS.out, List.getElem?_map, hx]; rfl
            rw [HPX.out] at h1
            rw [← Option.some.inj h1]
          have p0 : wr.drew.cell? ⟨b, off + j * 2, none⟩ = some (.int .i64 y.1.1) := hly 0 (by simp [enPt])
          have p1 : wr.drew.cell? ⟨b, off + k * 2, none⟩ = some (.int .i64 at_) := by rw [← hxa]; exact hlx 0 (by simp [enPt])
          generalize hya : y.1.1 = ya at *
          have hS := And.intro p0 p1
          have hjl : (j : Int) < (ps.length : Int) := by omega
          have hkl : (k : Int) < (ps.length : Int) := by have := HLT.out; omega
          have HPY := Lib.hid hpy
          have HYA := Lib.hid hya
          have HBJ := Lib.hid hbj
          have HNO := Lib.hid hno
          clear p0 p1 hy hly hx hlx hxa hpy hya hbj hno q0 q1
          by_cases heq : ya = at_
          · subst heq
            have hee : (ya == ya) = true := by simp
            have HBAD := Lib.hid (trans_dup (homes := homes) HPX.out (by simp only; rw [← HYA.out]; exact mem_take_fst hjk HPY.out))
            go_wp2_with fail
            refine wp_region_x (fun w' => w'.cell? ⟨b, off + j * 2, none⟩ = some (.int .i64 ya) ∧ w'.cell? ⟨b, off + k * 2, none⟩ = some (.int .i64 ya)) [(0, 1), (1, 1), (2, 1), (3, 1), (4, 0), (5, 1), (6, 1), (7, 1), (8, 1), (9, 0), (10, 1)] (by kernel_rfl) (by kernel_rfl) (by intro d v c a w h; cases d <;> exact h) ?_
            iterate 4 (refine x_take rfl (fun K hK => ?_); go_simp; refine hK _ ?_; clear hK K)
            refine x_read rfl hS (fun w' h => exec_load1 ⟨⟨_, Tryz.underlying3, rfl⟩⟩ rfl h.1) ?_
            iterate 4 (refine x_take rfl (fun K hK => ?_); go_simp; refine hK _ ?_; clear hK K)
            refine x_read rfl hS (fun w' h => exec_load1 ⟨⟨_, Tryz.underlying3, rfl⟩⟩ rfl h.2) ?_
            iterate 1 (refine x_take rfl (fun K hK => ?_); go_simp; refine hK _ ?_; clear hK K)
            refine x_nil ?_
            clear hS
            go_wp2
            go_ret
            rw [HBAD.out]
            exact ⟨rfl, HBJ.out.drew⟩
          · have hee : (ya == at_) = false := beq_eq_false_iff_ne.2 heq
            go_wp2_with fail
            refine wp_region_x (fun w' => w'.cell? ⟨b, off + j * 2, none⟩ = some (.int .i64 ya) ∧ w'.cell? ⟨b, off + k * 2, none⟩ = some (.int .i64 at_)) [(0, 1), (1, 1), (2, 1), (3, 1), (4, 0), (5, 1), (6, 1), (7, 1), (8, 1), (9, 0), (10, 1)] (by kernel_rfl) (by kernel_rfl) (by intro d v c a w h; cases d <;> exact h) ?_
            iterate 4 (refine x_take rfl (fun K hK => ?_); go_simp; refine hK _ ?_; clear hK K)
            refine x_read rfl hS (fun w' h => exec_load1 ⟨⟨_, Tryz.underlying3, rfl⟩⟩ rfl h.1) ?_
            iterate 4 (refine x_take rfl (fun K hK => ?_); go_simp; refine hK _ ?_; clear hK K)
            refine x_read rfl hS (fun w' h => exec_load1 ⟨⟨_, Tryz.underlying3, rfl⟩⟩ rfl h.2) ?_
            iterate 1 (refine x_take rfl (fun K hK => ?_); go_simp; refine hK _ ?_; clear hK K)
            refine x_nil ?_
            clear hS
            have HEQ := Lib.hid heq
            clear heq
            go_wp2
            go_roundw
            case rel =>
              refine ⟨j + 1, by omega, by go_num, fun i q hi hq => ?_, HBJ.out.drew⟩
              by_cases hij : i = j
              · subst hij
                rw [HPY.out] at hq
                rw [← Option.some.inj hq, HYA.out]
                exact HEQ.out
              · exact HNO.out i q (by omega) hq
            case measure => simp [intOf]; omega
        · obtain rfl : j = k := by omega
          have hdj : decide (j < j) = false := by simp
          have HNO := Lib.hid hno
          have HBJ := Lib.hid hbj
          clear hno hbj q0 q1
          go_wp2
          go_roundw
          case rel =>
            refine ⟨j + 1, by omega, by go_num, ?_, ?_, HBJ.out⟩
            · rw [HTS.out]
              intro p hp
              rcases List.mem_append.1 hp with hp | hp
              · exact HG.out p hp
              · rw [List.mem_singleton.1 hp]
                exact ⟨by simp only; omega, by simp only; omega, HC.out⟩
            · rw [HTS.out, List.map_append]
              refine List.pairwise_append.2 ⟨HND.out, by simp, fun a ha c hc e => ?_⟩
              simp at hc
              subst hc
              obtain ⟨q, hq, hqa⟩ := List.mem_map.1 ha
              obtain ⟨i, hi⟩ := List.mem_iff_getElem?.1 hq
              rw [List.getElem?_take] at hi
              split at hi
              · rename_i hij
                exact HNO.out i q hij hi (by rw [hqa, e])
              · cases hi
          case measure => simp [intOf]; omega
    · obtain rfl : k = ps.length := by omega
      have hd1 : decide (ps.length < ps.length) = false := by simp
      rw [List.take_length] at hg hnd
      have hT : transB ps homes = true := (transB_iff ps homes).2 ⟨by omega, by omega, hg, hnd⟩
      have HT := Lib.hid hT
      have HB := Lib.hid hb
      clear hg hnd hb hT
      go_wp2
      go_ret
      rw [HT.out]
      exact ⟨rfl, HB.out⟩
end Go.Proofs.YtmakpbjknklpiaaGreat

/-
  DERIVED: THE SHELF's CONTRACTS AT THIS DUMP, IN PLAIN WORDS (tools/lay-plain.mjs out of 'TryzShelf.lean', which tools/lay-shelf.mjs wrote): THE SAME DECLARATIONS UNDER THE SAME NAMES: 'import', 'namespace', 'open', 'def', 'theorem' AND NOTHING ELSE: no command of the shelf's: FOR A HAND-IN. Each laying: the table of numbers ('.._ren') and one theorem, a field a fact of the dump's own or the kernel's comparison; each contract: ONE APPLICATION.
-/
namespace Go.Proofs
open Go.Shelf
def Tryz.lays189_ren : Go.Shelf.Ren := ⟨fun | 189 => 111 | 125 => 122 | 257 => 121 | 128 => 132 | 129 => 133 | 294 => 123 | 295 => 124 | 296 => 125 | 297 => 126 | 298 => 127 | 299 => 128 | 216 => 129 | 300 => 130 | 301 => 131 | 328 => 134 | 329 => 135 | 330 => 136 | 331 => 137 | 332 => 138 | 215 => 139 | 343 => 140 | n => n, fun | 28 => 39 | 3 => 3 | 46 => 165 | 0 => 0 | 51 => 144 | 53 => 49 | 4 => 4 | 183 => 181 | 182 => 180 | 131 => 186 | 5 => 5 | 9 => 9 | 218 => 189 | 222 => 193 | 228 => 195 | 229 => 196 | n => n, fun | n => n⟩
theorem Tryz.lays189 : Go.Proofs.Lays.n189 Tryz.prog Tryz.lays189_ren := {
  mixed := by kernel_rfl
  f125 := Tryz.func122.trans (congrArg some (by kernel_rfl))
  f128 := Tryz.func132.trans (congrArg some (by kernel_rfl))
  f129 := Tryz.func133.trans (congrArg some (by kernel_rfl))
  f189 := Tryz.func111.trans (congrArg some (by kernel_rfl))
  f215 := Tryz.func139.trans (congrArg some (by kernel_rfl))
  f216 := Tryz.func129.trans (congrArg some (by kernel_rfl))
  f257 := Tryz.func121.trans (congrArg some (by kernel_rfl))
  f294 := Tryz.func123.trans (congrArg some (by kernel_rfl))
  f295 := Tryz.func124.trans (congrArg some (by kernel_rfl))
  f296 := Tryz.func125.trans (congrArg some (by kernel_rfl))
  f297 := Tryz.func126.trans (congrArg some (by kernel_rfl))
  f298 := Tryz.func127.trans (congrArg some (by kernel_rfl))
  f299 := Tryz.func128.trans (congrArg some (by kernel_rfl))
  f300 := Tryz.func130.trans (congrArg some (by kernel_rfl))
  f301 := Tryz.func131.trans (congrArg some (by kernel_rfl))
  f328 := Tryz.func134.trans (congrArg some (by kernel_rfl))
  f329 := Tryz.func135.trans (congrArg some (by kernel_rfl))
  f330 := Tryz.func136.trans (congrArg some (by kernel_rfl))
  f331 := Tryz.func137.trans (congrArg some (by kernel_rfl))
  f332 := Tryz.func138.trans (congrArg some (by kernel_rfl))
  f343 := Tryz.func140.trans (congrArg some (by kernel_rfl))
  t0 := Tryz.underlying0
  a0 := Tryz.isAgg0
  z0 := Tryz.sizeOf0
  v0 := Tryz.zeroValue0
  t3 := Tryz.underlying3
  a3 := Tryz.isAgg3
  z3 := Tryz.sizeOf3
  v3 := Tryz.zeroValue3
  t4 := Tryz.underlying4
  a4 := Tryz.isAgg4
  z4 := Tryz.sizeOf4
  v4 := Tryz.zeroValue4
  t5 := Tryz.underlying5
  a5 := Tryz.isAgg5
  z5 := Tryz.sizeOf5
  v5 := Tryz.zeroValue5
  t9 := Tryz.underlying9
  a9 := Tryz.isAgg9
  z9 := Tryz.sizeOf9
  v9 := Tryz.zeroValue9
  t28 := Tryz.underlying39
  a28 := Tryz.isAgg39
  z28 := Tryz.sizeOf39
  v28 := Tryz.zeroValue39
  t46 := Tryz.underlying165
  a46 := Tryz.isAgg165
  z46 := Tryz.sizeOf165
  v46 := Tryz.zeroValue165
  t51 := Tryz.underlying144
  a51 := Tryz.isAgg144
  z51 := Tryz.sizeOf144
  v51 := Tryz.zeroValue144
  t53 := Tryz.underlying49
  a53 := Tryz.isAgg49
  z53 := Tryz.sizeOf49
  v53 := Tryz.zeroValue49
  t131 := Tryz.underlying186
  a131 := Tryz.isAgg186
  z131 := Tryz.sizeOf186
  v131 := Tryz.zeroValue186
  t182 := Tryz.underlying180
  a182 := Tryz.isAgg180
  z182 := Tryz.sizeOf180
  v182 := Tryz.zeroValue180
  t183 := Tryz.underlying181
  a183 := Tryz.isAgg181
  z183 := Tryz.sizeOf181
  v183 := Tryz.zeroValue181
  t218 := Tryz.underlying189
  a218 := Tryz.isAgg189
  z218 := Tryz.sizeOf189
  v218 := Tryz.zeroValue189
  t222 := Tryz.underlying193
  a222 := Tryz.isAgg193
  z222 := Tryz.sizeOf193
  v222 := Tryz.zeroValue193
  t228 := Tryz.underlying195
  a228 := Tryz.isAgg195
  z228 := Tryz.sizeOf195
  v228 := Tryz.zeroValue195
  t229 := Tryz.underlying196
  a229 := Tryz.isAgg196
  z229 := Tryz.sizeOf196
  v229 := Tryz.zeroValue196 }
open Go.Sort Go.RowKit in
theorem Tryz.slices_Sort_int (blk off cap : Nat) (zs : List Int) (w : World) (hH : Holds (Value.int .i64) w blk off zs.toArray) (hblk : blk < w.heap.size) (hsz : zs.length < 4611686018427387904) :
    Calls Tryz.prog 111 #[.slice (some ⟨blk, off, none⟩) zs.length cap] w fun e w' =>
      e = .returned (.tuple #[]) ∧ ∃ n os, w' = grow (putRow (Value.int .i64) (Sort.ahead w n) blk off (zs.mergeSort fun x y => decide (x ≤ y)).toArray) os := Any.slices_Sort_int Tryz.lays189 blk off cap zs w hH hblk hsz
open Go.RowKit Go.Sort in
/-- .. and plain. (LAID: no walk: one application.) -/
theorem Tryz.slices_Sort_int_none (p : Option Addr) (cap : Nat) (w : World) :
    Calls Tryz.prog 111 #[.slice p 0 cap] w fun e w' => e = .returned (.tuple #[]) ∧ w' = w := Any.slices_Sort_int_none Tryz.lays189 p cap w
def Tryz.keysA_ren : Go.Shelf.Ren := ⟨fun | 7 => 94 | 10 => 112 | n => n, fun | 23 => 71 | 26 => 3 | 3 => 53 | 28 => 150 | 0 => 0 | 27 => 149 | 33 => 167 | 4 => 4 | n => n, fun | n => n⟩
theorem Tryz.keysA : Go.Proofs.SlLaysZI.n7 Tryz.prog Tryz.keysA_ren := {
  mixed := by kernel_rfl
  f7 := ⟨Tryz.f94.name, by decide, Tryz.func94.trans (congrArg some (by kernel_rfl))⟩
  f10 := ⟨Tryz.f112.name, by decide, Tryz.func112.trans (congrArg some (by kernel_rfl))⟩
  t0 := Tryz.underlying0
  a0 := Tryz.isAgg0
  z0 := Tryz.sizeOf0
  v0 := Tryz.zeroValue0
  t4 := Tryz.underlying4
  a4 := Tryz.isAgg4
  z4 := Tryz.sizeOf4
  v4 := Tryz.zeroValue4
  t23 := Tryz.underlying71
  a23 := Tryz.isAgg71
  z23 := Tryz.sizeOf71
  v23 := Tryz.zeroValue71
  t26 := Tryz.underlying3
  a26 := Tryz.isAgg3
  z26 := Tryz.sizeOf3
  v26 := Tryz.zeroValue3
  t27 := Tryz.underlying149
  a27 := Tryz.isAgg149
  z27 := Tryz.sizeOf149
  v27 := Tryz.zeroValue149
  t28 := Tryz.underlying150
  a28 := Tryz.isAgg150
  z28 := Tryz.sizeOf150
  v28 := Tryz.zeroValue150
  t33 := Tryz.underlying167
  a33 := Tryz.isAgg167
  z33 := Tryz.sizeOf167
  v33 := Tryz.zeroValue167 }
def Tryz.sortedA_ren : Go.Shelf.Ren := ⟨fun | 6 => 93 | 8 => 110 | 9 => 111 | 11 => 120 | 13 => 122 | 12 => 121 | 23 => 132 | 24 => 133 | 14 => 123 | 15 => 124 | 16 => 125 | 17 => 126 | 18 => 127 | 19 => 128 | 20 => 129 | 21 => 130 | 22 => 131 | 25 => 134 | 26 => 135 | 27 => 136 | 28 => 137 | 29 => 138 | 30 => 139 | 31 => 140 | n => n, fun | 26 => 3 | 28 => 150 | 24 => 39 | 0 => 0 | 3 => 3 | 37 => 165 | 48 => 144 | 50 => 49 | 4 => 4 | 40 => 181 | 39 => 180 | 45 => 186 | 5 => 5 | 9 => 9 | 51 => 189 | 55 => 193 | 57 => 195 | 58 => 196 | 33 => 167 | n => n, fun | n => n⟩
theorem Tryz.sortedA : Go.Proofs.SlLaysZI.n6 Tryz.prog Tryz.sortedA_ren := {
  mixed := by kernel_rfl
  f6 := ⟨Tryz.f93.name, by decide, Tryz.func93.trans (congrArg some (by kernel_rfl))⟩
  f8 := ⟨Tryz.f110.name, by decide, Tryz.func110.trans (congrArg some (by kernel_rfl))⟩
  f11 := ⟨Tryz.f120.name, by decide, Tryz.func120.trans (congrArg some (by kernel_rfl))⟩
  t0 := Tryz.underlying0
  a0 := Tryz.isAgg0
  z0 := Tryz.sizeOf0
  v0 := Tryz.zeroValue0
  t24 := Tryz.underlying39
  a24 := Tryz.isAgg39
  z24 := Tryz.sizeOf39
  v24 := Tryz.zeroValue39
  t26 := Tryz.underlying3
  a26 := Tryz.isAgg3
  z26 := Tryz.sizeOf3
  v26 := Tryz.zeroValue3
  t28 := Tryz.underlying150
  a28 := Tryz.isAgg150
  z28 := Tryz.sizeOf150
  v28 := Tryz.zeroValue150
  i26 := by kernel_rfl }
end Go.Proofs

/- The homes that transactions in the ring have, rising; in plain words, by the library. -/
namespace Go.Tn.Dk
open Go.Tn
/-- The homes that are not home, rising. -/
def Lg.keys (l : Lg) (d : Dsk) : List Nat := (List.range (l.homes d)).filter fun k => (l.H k).isSome
theorem nodup_le : ∀ (n : Nat) (l : List Int), l.Nodup → (∀ x ∈ l, 0 ≤ x ∧ x < n) → l.length ≤ n
  | 0, l, _, h => by
    cases l with
    | nil => exact Nat.le_refl _
    | cons x r => have := h x List.mem_cons_self; omega
  | n + 1, l, hd, h => by
    by_cases hm : (n : Int) ∈ l
    · have h1 := nodup_le n (l.erase n) (hd.erase _) fun x hx => by
        have h2 := (hd.mem_erase_iff).1 hx
        have := h x h2.2
        omega
      rw [List.length_erase_of_mem hm] at h1
      omega
    · have := nodup_le n l hd fun x hx => by
        have := h x hx
        have : x ≠ n := fun e => hm (e ▸ hx)
        omega
      omega
end Go.Tn.Dk
namespace Go.Proofs.YtmakpbjknklpiaaGreat
open Go.RowKit Go.Tn Go.Maps Go.Sort Go.Shelf Go.Tn.Bt Go.Tn.Lp Go.Tn.Dk
theorem sortsA (m : Nat) : AnyZI.SortsIn Tryz.prog Tryz.sortedA_ren Fence.wide m :=
  ⟨fun blk off cap ss W hH hblk hsz => callsIn_wide.2 (Tryz.slices_Sort_int blk off cap ss W hH hblk hsz),
   fun p cap W => callsIn_wide.2 (Tryz.slices_Sort_int_none p cap W)⟩
theorem keys_call (W : World) (m : Nat) : Calls Tryz.prog 94 #[.map (some m)] W
    fun e w' => e = .returned (.func (.func 112) #[] #[.pointer (some ⟨W.heap.size, 0, none⟩)]) ∧ w' = W.alloc (.cells #[.map (some m)] 71) :=
  (callsIn_wide (n := 5)).1 (AnyZI.keys_in Tryz.keysA Fence.wide 5 trivial rfl (some m) W)
theorem sorted_call (w : World) (m clk : Nat) (L : Ents Int) (hb : w.heap[m]? = some (.map (ents encI L) clk)) (hwf : WF L clk) (hk : ∀ e ∈ L, (Lit.int .i64 e.1).wf = true) (hl : L.length ≤ 100000) :
    Calls Tryz.prog 93 #[.func (.func 112) #[] #[.pointer (some ⟨w.heap.size, 0, none⟩)]] (w.alloc (.cells #[.map (some m)] 71))
      fun e w' => ∃ v, e = .returned v ∧ w'.ownsRow w.heap.size 3 1 v L.length (((L.map (·.1)).mergeSort leI).map encZ) ∧ Below w.heap.size w w' := by
  obtain ⟨D0, hown, hperm, hsz⟩ := owns_ents Tryz.underlying3 hb hwf hk hl
  have hbl : m < w.heap.size := lt_of_block hb
  have hal : Below w.heap.size w (w.alloc (.cells #[.map (some m)] 71)) := (Below.refl _ w).alloc (Nat.le_refl _) _
  have hmax : Maps.size D0 ≤ maxLen := by rw [hsz]; unfold maxLen; omega
  have hbytes : Maps.size D0 * 8 ≤ 140737488355328 := by rw [hsz]; omega
  have hseq : SeqGives Fence.wide 2 Tryz.prog 112 #[.pointer (some ⟨w.heap.size, 0, none⟩)] encZ (fun ss => ss.Perm (intKeys D0)) (Maps.size D0) (w.alloc (.cells #[.map (some m)] 71)) :=
    AnyZI.keys_gives (ρ := Tryz.keysA_ren) { Tryz.keysA with } Fence.wide _ trivial rfl (by omega) w.heap.size m L.length D0 _ (by simp) (by simp) (by
      obtain ⟨es, clock, hb, Ft, hs, hD⟩ := hown
      exact ⟨es, clock, (Below.heap_alloc _ _ m hbl).trans hb, Ft, hs, hD⟩)
  have cS := AnyZI.sorted_in Tryz.sortedA Fence.wide 5 trivial trivial trivial trivial rfl (by omega) (sortsA _) (enters_of Tryz.func111 (by kernel_rfl) rfl) 112 #[.pointer (some ⟨w.heap.size, 0, none⟩)] trivial (enters_of Tryz.func112 (by kernel_rfl) rfl) _ _ hmax hbytes _ hseq
  change CallsIn _ _ Tryz.prog 93 _ _ _ at cS
  refine ((callsIn_wide (n := 5)).1 cS).mono ?_
  rintro e w' ⟨v, ss, rfl, hS, hrow, _, hbl2⟩
  have hp2 : ss.Perm (L.map (·.1)) := hS.trans hperm
  have hlen : ss.length = L.length := by rw [hp2.length_eq, List.length_map]
  refine ⟨v, rfl, ?_, hal.trans (hbl2.mono (by simp))⟩
  rw [← mergeSort_of_perm_i hp2, ← hlen]
  exact ownsRow_base_a hrow (by simp)
abbrev enI : Int → List Value := fun z => [.int .i64 z]
/-- The homes' numbers in a slice. -/
theorem hkeys_any {w : World} {F : Nat → Prop} {m clk : Nat} {L : Ents Int} {l : Lg} {d : Dsk} (hok : l.ok d) (hd : d.ok) (h : HAt w F m L clk l.H) :
    Calls Tryz.prog 93 #[.func (.func 112) #[] #[.pointer (some ⟨w.heap.size, 0, none⟩)]] (w.alloc (.cells #[.map (some m)] 71))
      fun e w' => ∃ v, e = .returned v ∧ LOut enI 1 3 w.heap.size w' v ((l.keys d).map fun (k : Nat) => (k : Int)) ∧ Below w.heap.size w w' := by
  have hlt : ∀ e ∈ L, 0 ≤ e.1 ∧ e.1 < ((l.homes d : Nat) : Int) := fun e he => by
    obtain ⟨k, hk, b, hb, -⟩ := h.key e he
    have := (hok.H k b hb).1
    omega
  have hnd : (L.map (·.1)).Nodup := by
    have := h.wf.keys
    exact List.pairwise_map.2 (this.imp fun h => h)
  have hh : l.homes d ≤ 4096 := by unfold Lg.homes; have := hd.hi; omega
  have hlen : L.length ≤ 100000 := by
    have := nodup_le (l.homes d) (L.map (·.1)) hnd fun x hx => by
      obtain ⟨e, he, rfl⟩ := List.mem_map.1 hx
      exact hlt e he
    rw [List.length_map] at this
    omega
  have hkd : ((l.keys d).map fun (k : Nat) => (k : Int)).Nodup := by
    refine List.pairwise_map.2 ((List.Pairwise.filter _ (List.nodup_range (n := l.homes d))).imp fun h e => h (by omega))
  have hperm : (L.map (·.1)).Perm ((l.keys d).map fun (k : Nat) => (k : Int)) := by
    refine (List.perm_ext_iff_of_nodup hnd hkd).2 fun a => ⟨fun ha => ?_, fun ha => ?_⟩
    · obtain ⟨e, he, rfl⟩ := List.mem_map.1 ha
      obtain ⟨k, hk, b, hb, -⟩ := h.key e he
      refine List.mem_map.2 ⟨k, ?_, hk.symm⟩
      unfold Lg.keys
      rw [List.mem_filter, List.mem_range, hb]
      exact ⟨(hok.H k b hb).1, rfl⟩
    · obtain ⟨k, hk, rfl⟩ := List.mem_map.1 ha
      unfold Lg.keys at hk
      rw [List.mem_filter] at hk
      obtain ⟨e, he, hek⟩ := h.all k (by
        intro e
        rw [e] at hk
        simp at hk)
      exact List.mem_map.2 ⟨e, he, hek⟩
  have hsrt : ((L.map (·.1)).mergeSort leI) = (l.keys d).map fun (k : Nat) => (k : Int) := by
    rw [mergeSort_of_perm_i hperm]
    refine List.mergeSort_of_pairwise ?_
    refine List.pairwise_map.2 ((List.Pairwise.filter _ (List.pairwise_lt_range (n := l.homes d))).imp fun h => ?_)
    simp only [leI, decide_eq_true_eq]
    omega
  refine (sorted_call w m clk L h.blk h.wf (fun e he => ?_) hlen).mono ?_
  · have := hlt e he
    simp [Lit.wf, IntKind.min, IntKind.max, IntKind.signed, IntKind.bits]
    omega
  · rintro e w' ⟨v, rfl, hrow, hb⟩
    rw [hsrt] at hrow
    have hll : L.length = ((l.keys d).map fun (k : Nat) => (k : Int)).length := by rw [← hperm.length_eq, List.length_map]
    rw [hll] at hrow
    refine ⟨v, rfl, ⟨?_, fun r hr => ?_, hb.size⟩, hb⟩
    · have hfl : ∀ zs : List Int, zs.flatMap enI = zs.map encZ := fun zs => by
        induction zs with
        | nil => rfl
        | cons z zs ih =>
          rw [List.flatMap_cons, ih]
          rfl
      rw [hfl]
      exact ownsRow_base_a hrow (Nat.zero_le _)
    · rcases hrow.2 with ⟨hv, _⟩ | ⟨g, cap, cur, hv, h0, _⟩
      · rw [hv] at hr; cases hr
      · rw [hv] at hr; cases hr; exact h0
end Go.Proofs.YtmakpbjknklpiaaGreat
