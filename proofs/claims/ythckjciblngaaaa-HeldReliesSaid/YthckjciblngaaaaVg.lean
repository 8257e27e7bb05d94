/- The law HeldRelies, walked. -/
import Derived.Test.YthckjciblngaaaaVf
import Derived.Deep.LoopGhost
import Derived.Deep.DeepCutAuto
import Derived.Deep.CutBlock
namespace Go.Proofs.Ythckjciblngaaaa
open Go.RowKit Go.Tn Go.Maps Go.Sort Go.Shelf

/-- One call. -/
structure DoV where
  k : Int
  m : Int
  i : Int
  g : Int
  v : Int
abbrev enV : DoV → List Value := fun d => [.int .i64 d.k, .int .i64 d.m, .int .i64 d.i, .int .i64 d.g, .int .u64 d.v]
theorem aggV (kd md i g v : Int) : AggT Try.prog 41 (#[.int .i64 kd, .int .i64 md, .int .i64 i, .int .i64 g, .int .u64 v] : Array Value).size := ⟨⟨_, Try.underlying41, rfl⟩, by kernel_rfl⟩
/-- An operation whose guard lets it. -/
theorem wpList_execW {P : Program} {ops : Array Oper} {a : Act} {w : World} {rest : List Oper} {Q : Exit → Act → World → Prop} {o : Oper} {v : Value} {w' : World} (hr : (execOp a.eval o).run P w = .ok (.value v) w') (hg : Region.wanted o (yielded ops a.tmps) = true) (h : wpList P ops Q rest (a.put o.dst v) w') : wpList P ops Q (o :: rest) a w := by
  refine BigFrame.wpList_want hg fun K hK => ?_
  simp only [Oper.wp, hr, Oper.upon]
  exact hK _ _ h

/-- Behind the law's own note all that is held was noted. -/
def Met (ph ph' : Int) (G' : Gs) (C8 : Fi → Bool) : Prop := ∀ FL9, Fils G' FL9 → ph = 1 → ph' = 2 → ∀ x ∈ FL9, C8 x = true
theorem p_tell {w : World} {b n : Nat} {S : Nat → Prop} {ph bo : Int} {G : Gs} (h : HS w b S ph bo G n) (hn : n ≤ 500) {FL : List Fi} (hFL : Fils G FL) : Calls Try.prog 8 #[.pointer (some ⟨b, 0, none⟩)] w fun e w' => (∃ fi fg md : Int, ∃ more : Bool, e = .returned (.tuple #[.agg #[.int .i64 fi, .int .i64 fg], .int .i64 md, .bool more]) ∧ nextR ph G FL = if more then some (fi, fg) else none) ∧ Below w.heap.size w w' := by
  refine (p_next h hn hFL).mono ?_
  rintro e w' ⟨he, hb⟩
  refine ⟨?_, hb⟩
  cases hx : nextR ph G FL with
  | none => rw [hx] at he; exact ⟨0, 0, 0, false, he, rfl⟩
  | some f => rw [hx] at he; obtain ⟨md, he⟩ := he; exact ⟨f.1, f.2, md, true, he, rfl⟩
theorem DBox.lies {bx : Nat} {kd md i g v : Int} {w : World} (h : DBox bx kd md i g v w) : Lies w bx 0 #[.int .i64 kd, .int .i64 md, .int .i64 i, .int .i64 g, .int .u64 v] := fun j hj => by
  match j, hj with
  | 0, _ => exact h.k
  | 1, _ => exact h.m
  | 2, _ => exact h.f 0 (show 0 < 2 by omega)
  | 3, _ => exact h.f 1 (show 1 < 2 by omega)
  | 4, _ => exact h.v
theorem lies_mod {w w' : World} {S : Nat → Prop} {bx : Nat} {fi fg : Int} (h : Lies w bx 0 #[.int .i64 fi, .int .i64 fg]) (hm : Mod S w w') (hS : ¬ S bx) : Lies w' bx 0 #[.int .i64 fi, .int .i64 fg] := fun j hj =>
  (World.cell?_of_block (a := ⟨bx, 0 + j, none⟩) (hm.block bx (World.block_lt_of_cell? w ⟨bx, 0, none⟩ (h 0 (show 0 < 2 by omega))) hS)).trans (h j hj)

set_option maxRecDepth 40000 in
set_option maxHeartbeats 16000000 in
theorem relies_walk (w : World) (v : Value) (ds : List DoV) (hv : LSl enV 5 w v ds) (hp : ∀ d ∈ ds, 0 ≤ d.v) : Calls Try.prog 3 #[v] w fun e w' => e = .returned (.bool true) ∧ Below w.heap.size w w' := by
  obtain ⟨ao, cap, rfl, hcl, hcm, hx⟩ := hv
  unfold maxLen at hcm
  have hmm := @run_makeMap Try.prog
  go_enter Try.func3, Try.ntmps3
  go_wp2_with fail
  refine (new_ok w 9 (by decide) (by decide)).mono ?_
  rintro e w2 ⟨b, m, lb, rfl, h2, hbb, hmx, hll, hb2⟩
  obtain ⟨S, T, hst⟩ := SR.start h2 hbb hmx hll hb2
  have HST := Lib.hid hst
  clear h2 hb2 hst hbb hmx hll
  go_wp2
  go_loopw [6, 7] (fun mv kv wr => ∃ k : Nat, k ≤ 60 ∧ kv = .int .i64 k ∧ ∃ cm C ph bo G S T, mv = .map (some cm) ∧ Inv ph G C ∧ SR w wr b (w2.heap.size + 1) (2 * k) cm C ph bo G S T) (fun _ kv _ => 60 - (intOf kv).toNat)
  case atStart => exact ⟨0, by omega, rfl, _, _, _, _, _, _, _, rfl, fun e => by omega, HST.out⟩
  case round =>
    obtain ⟨k, hk, rfl, cm, C, ph, bo, G, S, T, rfl, hI, hP⟩ := hrel
    clear HST
    generalize w2.heap.size + 1 = xb at *
    by_cases hgo : k < ds.length ∧ k < 60
    · obtain ⟨hkl, hk4⟩ := hgo
      have hkl' : (k : Int) < (ds.length : Int) := by omega
      have hk4' : (k : Int) < 60 := by omega
      obtain ⟨bh, off, rfl, hbh, hcs⟩ := hx (by omega)
      have hD := (hcs k _ (List.getElem?_eq_getElem hkl)).below' hP.bel hbh
      have hv0 := hp _ (List.getElem_mem hkl)
      clear hcs hx hp
      generalize ds[k] = dd at *
      obtain ⟨kd, md, i, g, v⟩ := dd
      have hD5 : Lies wr bh (off + k * 5) #[.int .i64 kd, .int .i64 md, .int .i64 i, .int .i64 g, .int .u64 v] := hD
      have HD := Lib.hid hD5
      clear hD hD5
      have HI := Lib.hid hI
      have HM := Lib.hid hmm
      clear hI hmm
      go_upto_region 10 with (first
        | ((with_reducible refine wpList_loadA (aggV kd md i g v) HD.out ?_ ?_); rfl; go_frame)
        | fail)
      have HCM := Lib.hid hP.map.lt
      have hbn := hP.both
      have hbx := hbn.not_s
      have hbt := hbn.not_t
      have hal : Below wr.heap.size wr (wr.alloc (.cells #[.int .i64 kd, .int .i64 md, .int .i64 i, .int .i64 g, .int .u64 v] 41)) := (Below.refl _ _).alloc (Nat.le_refl _) _
      have hP4 := hP.keep hal
      have hX : DBox wr.heap.size kd md i g v (wr.alloc (.cells #[.int .i64 kd, .int .i64 md, .int .i64 i, .int .i64 g, .int .u64 v] 41)) := DBox.new
      clear hP hal HD hbn
      obtain ⟨w4, hw4⟩ : ∃ w4, wr.alloc (.cells #[.int .i64 kd, .int .i64 md, .int .i64 i, .int .i64 g, .int .u64 v] 41) = w4 := ⟨_, rfl⟩
      rw [hw4] at hP4 hX
      rw [hw4]
      obtain ⟨bx, hbxe⟩ : ∃ bx, wr.heap.size = bx := ⟨_, rfl⟩
      rw [hbxe] at hX hbx hbt HCM
      rw [hbxe]
      clear hw4 hbxe
      have hbx4 : bx < w4.heap.size := World.block_lt_of_cell? w4 _ hX.k
      obtain ⟨FL, hFL, -⟩ := hP4.both.p.fl
      have HFL := Lib.hid hFL
      clear hFL
      have hxb4 : bx ≠ cm := by
        intro e
        have := HCM.out
        omega
      go_wp2_with fail
      refine (p_phase hP4.both.p).mono ?_
      rintro e w5 ⟨rfl, hw⟩
      obtain rfl := hw.symm
      clear hw
      go_wp2_with fail
      refine (p_boot hP4.both.p).mono ?_
      rintro e w5 ⟨rfl, hw⟩
      obtain rfl := hw.symm
      clear hw
      go_wp2_with fail
      refine (p_tell hP4.both.p (by omega) HFL.out).mono ?_
      rintro e w5 ⟨⟨fi, fg, md2, more, rfl, hnx⟩, hb5⟩
      have HNX := Lib.hid hnx
      have hP5 := hP4.keep hb5
      have hX5 : DBox bx kd md i g v w5 := hX.mod (Mod.of_below hb5) hbx4 (Nat.not_le.2 hbx4)
      have hbx5 : bx < w5.heap.size := World.block_lt_of_cell? w5 _ hX5.k
      obtain ⟨w6, hw6⟩ : ∃ w6, w5.alloc (.cells #[.int .i64 fi, .int .i64 fg] 39) = w6 := ⟨_, rfl⟩
      have hb6 : Below w5.heap.size w5 w6 := by rw [← hw6]; exact (Below.refl _ _).alloc (Nat.le_refl _) _
      have hL6 : Lies w6 w5.heap.size 0 #[.int .i64 fi, .int .i64 fg] := by
        rw [← hw6]
        exact box_file
      have hP6 := hP5.keep hb6
      have hX6 : DBox bx kd md i g v w6 := hX5.mod (Mod.of_below hb6) hbx5 (Nat.not_le.2 hbx5)
      have hfs := hP5.both.not_s
      have hft := hP5.both.not_t
      have hfm : w5.heap.size ≠ cm := by
        intro e
        have := hP5.map.lt
        omega
      have H6 := Lib.hid hw6
      have HX6 := Lib.hid hX6.lies
      clear hnx hb5 hP4 hX hX5 hw6 hb6 hP5
      go_upto_region 12 with (first
        | ((with_reducible refine wpList_storeA_new (aggF fi fg) ?_ rfl ?_ ?_ ?_); rfl; rfl; rfl; go_frame)
        | fail)
      rw [H6.out]
      obtain ⟨fb, hfb⟩ : ∃ fb, w5.heap.size = fb := ⟨_, rfl⟩
      rw [hfb] at hL6 hfs hft hfm
      rw [hfb]
      clear H6 hfb hbx5 hbx4
      go_wp2_with (first
        | ((with_reducible refine wpList_loadA (aggV kd md i g v) HX6.out ?_ ?_); rfl; go_frame)
        | fail)
      refine (does_any hP6.both (by omega) kd md i g v hv0 HFL.out).mono ?_
      rintro e w7 ⟨⟨c7, rfl⟩, hd7⟩
      have hm7 : Mod (fun x => S x ∨ T x) w6 w7 := by
        obtain ⟨_, _, _, _, _, _, _, h, _⟩ := hd7
        exact h
      obtain ⟨ph', bo', G', S', T', hP7, hT⟩ := hP6.does hd7
      have hX7 : DBox bx kd md i g v w7 := hX6.mod hm7 (World.block_lt_of_cell? w6 _ hX6.k) (fun e => by rcases e with e | e; exact hbx e; exact hbt e)
      have hL7 : Lies w7 fb 0 #[.int .i64 fi, .int .i64 fg] := lies_mod hL6 hm7 (fun e => by rcases e with e | e; exact hfs e; exact hft e)
      clear hP6 hd7 hm7 hX6 hL6 HX6 hbx hbt hfs hft
      have x0 := hX7.k
      have hX7lt := World.block_lt_of_cell? w7 _ x0
      have HF7 := Lib.hid hX7.f
      have HL7 := Lib.hid hL7
      have HT := Lib.hid hT
      clear hL7 hT
      have hcase : (kd = 3 ∧ ph = 1) ∨ (kd = 3 ∧ ph ≠ 1) ∨ (kd = 11 ∧ more = true) ∨ (kd = 11 ∧ more = false) ∨ (kd = 2 ∧ bo' ≠ bo) ∨ (kd = 2 ∧ bo' = bo) ∨ (kd ≠ 3 ∧ kd ≠ 11 ∧ kd ≠ 2) := by
        cases more <;> simp <;> omega
      clear hfm
      obtain ⟨nx, hnxe⟩ : ∃ nx, nextR ph G FL = nx := ⟨_, rfl⟩
      rw [hnxe] at HNX HT
      clear hnxe
      obtain ⟨C8, hC8e⟩ : ∃ C8, noted C kd ph bo bo' (i, g) nx = C8 := ⟨_, rfl⟩
      have HI9 : Hid (Inv ph' G' C8) := Lib.hid (hC8e ▸ HI.out.turn HT.out)
      have HZ : Hid (Met ph ph' G' C8) := Lib.hid (fun FL9 hF9 h1 h2 => hC8e ▸ HI.out.met HT.out hF9 h1 h2)
      have HC8 := Lib.hid hC8e
      clear HI HT hC8e
      rcases hcase with ⟨rfl, rfl⟩ | ⟨rfl, hn⟩ | ⟨rfl, rfl⟩ | ⟨rfl, rfl⟩ | ⟨rfl, hn⟩ | ⟨rfl, rfl⟩ | ⟨hn3, hn11, hn2⟩
      · have e8 : C8 = setC C (i, g) := by rw [← HC8.out]; unfold noted; rw [if_pos ⟨rfl, rfl⟩]
        obtain ⟨w8, hC8, hm8, hrun⟩ := hP7.map.exec_set i g
        have HRUN := Lib.hid hrun
        have hP8 := hP7.set hm8 hC8
        obtain ⟨cm8, rfl⟩ : ∃ x, x = cm := ⟨_, rfl⟩
        rw [← e8] at hP8
        have x8 := (hX7.mod hm8 hX7lt hxb4).k
        clear hrun hm8 hC8 e8 hP7 hX7 hX7lt hxb4
        go_upto_region 19 with (first
          | ((with_reducible refine wpList_loadA (aggF _ _) HF7.out ?_ ?_); rfl; go_frame)
          | ((with_reducible refine wpList_execSkip rfl (HRUN.out _ _ _ _ _ _ _ _ _ ?_ ?_ ?_) ?_); rfl; rfl; rfl; go_frame)
          | fail)
        as_aux_lemma =>
          go_wp2_with fail
          refine (p_all hP8.both.p (by omega)).mono ?_
          rintro e w9 ⟨⟨v9, FL9, rfl, hF9, hl9, hR9⟩, hb9⟩
          have hP9 := hP8.keep hb9
          have HF9 := Lib.hid hF9
          obtain ⟨ao9, cap9, rfl, hcl9, hcm9, hx9⟩ := hR9.sl
          unfold maxLen at hcm9
          clear hP8 hb9 hF9 hR9
          go_wp2
          go_loopw [15] (fun jv wi => ∃ j : Nat, j ≤ FL9.length ∧ jv = .int .i64 j ∧ Below w9.heap.size w9 wi) (fun jv _ => FL9.length - (intOf jv).toNat)
          case atStart => exact ⟨0, Nat.zero_le _, rfl, Below.refl _ _⟩
          case round =>
            obtain ⟨j, hj, rfl, hbi⟩ := hrel
            by_cases hjl : j < FL9.length
            · have hPi := hP9.keep hbi
              obtain ⟨b9, off9, rfl, hb9', hc9⟩ := hx9 (by omega)
              have hE := (hc9 j _ (List.getElem?_eq_getElem hjl)).below' hbi hb9'
              have hmem := List.getElem_mem hjl
              have hjl' : (j : Int) < (FL9.length : Int) := by omega
              clear hc9 hx9
              generalize FL9[j] = f9 at *
              obtain ⟨xi, xg⟩ := f9
              have HE : Hid (Lies wr b9 (off9 + j * 2) #[.int .i64 xi, .int .i64 xg]) := Lib.hid hE
              have HB := Lib.hid hbi
              have HMM := Lib.hid hmem
              clear hE hbi hmem
              by_cases h2 : ph' = 2
              · subst h2
                go_wp2_with fail
                refine (p_phase hPi.both.p).mono ?_
                rintro e w10 ⟨rfl, hw⟩
                obtain rfl := hw.symm
                clear hw
                have hz := HZ.out _ HF9.out rfl rfl (xi, xg) HMM.out
                have hget := fun (ρ : Operand → Value) dst ty pos after gd x k hx hk => hPi.map.exec_get (ρ := ρ) (dst := dst) (ty := ty) (pos := pos) (after := after) (gd := gd) (x := x) (k := k) hx xi xg hk
                rw [hz] at hget
                have HG := Lib.hid hget
                clear hz hget
                go_wp2_with fail
                refine (p_phase hPi.both.p).mono ?_
                rintro e w10 ⟨rfl, hw⟩
                obtain rfl := hw.symm
                clear hw
                go_wp2_with (first
                  | ((with_reducible refine wpList_execW (exec_loadA (aggF xi xg) ?_ HE.out) ?_ ?_); rfl; rfl; go_frame)
                  | ((with_reducible refine wpList_execW (HG.out _ _ _ _ _ _ _ _ ?_ ?_) ?_ ?_); rfl; rfl; rfl; go_frame)
                  | fail)
                go_roundw
                case rel => exact ⟨j + 1, by omega, by go_num, HB.out⟩
                case measure => simp [intOf]; omega
              · have hb2 : (ph' != 2) = true := by simp [h2]
                go_wp2_with fail
                refine (p_phase hPi.both.p).mono ?_
                rintro e w10 ⟨rfl, hw⟩
                obtain rfl := hw.symm
                clear hw
                go_wp2_with (first
                    | ((with_reducible refine wpList_execW (exec_loadA (aggF xi xg) ?_ HE.out) ?_ ?_); rfl; (first | rfl | (go_simp; done) | (simp [go_sem, h2]; done)); go_frame)
                    | fail)
                refine (p_mode_out hPi.both.p h2 xi xg).mono ?_
                rintro e w11 ⟨rfl, hb11⟩
                have hPj := hPi.keep hb11
                have HB2 := Lib.hid (HB.out.trans (hb11.mono HB.out.size))
                clear hb11
                go_wp2_with fail
                refine (p_phase hPj.both.p).mono ?_
                rintro e w10 ⟨rfl, hw⟩
                obtain rfl := hw.symm
                clear hw
                go_wp2_with fail
                go_roundw
                case rel => exact ⟨j + 1, by omega, by go_num, HB2.out⟩
                case measure => simp [intOf]; omega
            · have hjl' : (FL9.length : Int) ≤ (j : Int) := by omega
              have HPi := Lib.hid (hP9.keep hbi)
              clear hP9 hbi hx9
              go_wp2
              go_roundw
              case rel => exact ⟨k + 1, by omega, by go_num, _, _, _, _, _, _, _, rfl, HI9.out, HPi.out⟩
              case measure => simp [intOf]; omega
      · have e8 : C8 = C := by rw [← HC8.out]; unfold noted; rw [if_neg (by omega), if_neg (by omega), if_neg (by omega)]
        obtain ⟨w8, rfl⟩ : ∃ w8, w8 = w7 := ⟨_, rfl⟩
        obtain ⟨cm8, rfl⟩ : ∃ x, x = cm := ⟨_, rfl⟩
        have hP8 := hP7
        rw [← e8] at hP8
        clear e8 hP7 hX7 hX7lt hxb4
        go_upto_region 19 with (fail)
        as_aux_lemma =>
          go_wp2_with fail
          refine (p_all hP8.both.p (by omega)).mono ?_
          rintro e w9 ⟨⟨v9, FL9, rfl, hF9, hl9, hR9⟩, hb9⟩
          have hP9 := hP8.keep hb9
          have HF9 := Lib.hid hF9
          obtain ⟨ao9, cap9, rfl, hcl9, hcm9, hx9⟩ := hR9.sl
          unfold maxLen at hcm9
          clear hP8 hb9 hF9 hR9
          go_wp2
          go_loopw [15] (fun jv wi => ∃ j : Nat, j ≤ FL9.length ∧ jv = .int .i64 j ∧ Below w9.heap.size w9 wi) (fun jv _ => FL9.length - (intOf jv).toNat)
          case atStart => exact ⟨0, Nat.zero_le _, rfl, Below.refl _ _⟩
          case round =>
            obtain ⟨j, hj, rfl, hbi⟩ := hrel
            by_cases hjl : j < FL9.length
            · have hPi := hP9.keep hbi
              obtain ⟨b9, off9, rfl, hb9', hc9⟩ := hx9 (by omega)
              have hE := (hc9 j _ (List.getElem?_eq_getElem hjl)).below' hbi hb9'
              have hmem := List.getElem_mem hjl
              have hjl' : (j : Int) < (FL9.length : Int) := by omega
              clear hc9 hx9
              generalize FL9[j] = f9 at *
              obtain ⟨xi, xg⟩ := f9
              have HE : Hid (Lies wr b9 (off9 + j * 2) #[.int .i64 xi, .int .i64 xg]) := Lib.hid hE
              have HB := Lib.hid hbi
              have HMM := Lib.hid hmem
              clear hE hbi hmem
              by_cases h2 : ph' = 2
              · subst h2
                go_wp2_with fail
                refine (p_phase hPi.both.p).mono ?_
                rintro e w10 ⟨rfl, hw⟩
                obtain rfl := hw.symm
                clear hw
                go_wp2_with fail
                go_roundw
                case rel => exact ⟨j + 1, by omega, by go_num, HB.out⟩
                case measure => simp [intOf]; omega
              · have hb2 : (ph' != 2) = true := by simp [h2]
                go_wp2_with fail
                refine (p_phase hPi.both.p).mono ?_
                rintro e w10 ⟨rfl, hw⟩
                obtain rfl := hw.symm
                clear hw
                go_wp2_with (first
                    | ((with_reducible refine wpList_execW (exec_loadA (aggF xi xg) ?_ HE.out) ?_ ?_); rfl; (first | rfl | (go_simp; done) | (simp [go_sem, h2]; done)); go_frame)
                    | fail)
                refine (p_mode_out hPi.both.p h2 xi xg).mono ?_
                rintro e w11 ⟨rfl, hb11⟩
                have hPj := hPi.keep hb11
                have HB2 := Lib.hid (HB.out.trans (hb11.mono HB.out.size))
                clear hb11
                go_wp2_with fail
                go_roundw
                case rel => exact ⟨j + 1, by omega, by go_num, HB2.out⟩
                case measure => simp [intOf]; omega
            · have hjl' : (FL9.length : Int) ≤ (j : Int) := by omega
              have HPi := Lib.hid (hP9.keep hbi)
              clear hP9 hbi hx9
              go_wp2
              go_roundw
              case rel => exact ⟨k + 1, by omega, by go_num, _, _, _, _, _, _, _, rfl, HI9.out, HPi.out⟩
              case measure => simp [intOf]; omega
      · have e8 : C8 = setC C (fi, fg) := by rw [← HC8.out]; unfold noted; rw [if_neg (by omega), if_pos rfl, HNX.out]; rfl
        obtain ⟨w8, hC8, hm8, hrun⟩ := hP7.map.exec_set fi fg
        have HRUN := Lib.hid hrun
        have hP8 := hP7.set hm8 hC8
        obtain ⟨cm8, rfl⟩ : ∃ x, x = cm := ⟨_, rfl⟩
        rw [← e8] at hP8
        have x8 := (hX7.mod hm8 hX7lt hxb4).k
        clear hrun hm8 hC8 e8 hP7 hX7 hX7lt hxb4
        go_upto_region 19 with (first
          | ((with_reducible refine wpList_loadA (aggF _ _) HL7.out ?_ ?_); rfl; go_frame)
          | ((with_reducible refine wpList_execSkip rfl (HRUN.out _ _ _ _ _ _ _ _ _ ?_ ?_ ?_) ?_); rfl; rfl; rfl; go_frame)
          | fail)
        by_cases h1 : ph = 1
        · subst h1
          as_aux_lemma =>
            go_wp2_with fail
            refine (p_all hP8.both.p (by omega)).mono ?_
            rintro e w9 ⟨⟨v9, FL9, rfl, hF9, hl9, hR9⟩, hb9⟩
            have hP9 := hP8.keep hb9
            have HF9 := Lib.hid hF9
            obtain ⟨ao9, cap9, rfl, hcl9, hcm9, hx9⟩ := hR9.sl
            unfold maxLen at hcm9
            clear hP8 hb9 hF9 hR9
            go_wp2
            go_loopw [15] (fun jv wi => ∃ j : Nat, j ≤ FL9.length ∧ jv = .int .i64 j ∧ Below w9.heap.size w9 wi) (fun jv _ => FL9.length - (intOf jv).toNat)
            case atStart => exact ⟨0, Nat.zero_le _, rfl, Below.refl _ _⟩
            case round =>
              obtain ⟨j, hj, rfl, hbi⟩ := hrel
              by_cases hjl : j < FL9.length
              · have hPi := hP9.keep hbi
                obtain ⟨b9, off9, rfl, hb9', hc9⟩ := hx9 (by omega)
                have hE := (hc9 j _ (List.getElem?_eq_getElem hjl)).below' hbi hb9'
                have hmem := List.getElem_mem hjl
                have hjl' : (j : Int) < (FL9.length : Int) := by omega
                clear hc9 hx9
                generalize FL9[j] = f9 at *
                obtain ⟨xi, xg⟩ := f9
                have HE : Hid (Lies wr b9 (off9 + j * 2) #[.int .i64 xi, .int .i64 xg]) := Lib.hid hE
                have HB := Lib.hid hbi
                have HMM := Lib.hid hmem
                clear hE hbi hmem
                by_cases h2 : ph' = 2
                · subst h2
                  go_wp2_with fail
                  refine (p_phase hPi.both.p).mono ?_
                  rintro e w10 ⟨rfl, hw⟩
                  obtain rfl := hw.symm
                  clear hw
                  have hz := HZ.out _ HF9.out rfl rfl (xi, xg) HMM.out
                  have hget := fun (ρ : Operand → Value) dst ty pos after gd x k hx hk => hPi.map.exec_get (ρ := ρ) (dst := dst) (ty := ty) (pos := pos) (after := after) (gd := gd) (x := x) (k := k) hx xi xg hk
                  rw [hz] at hget
                  have HG := Lib.hid hget
                  clear hz hget
                  go_wp2_with fail
                  refine (p_phase hPi.both.p).mono ?_
                  rintro e w10 ⟨rfl, hw⟩
                  obtain rfl := hw.symm
                  clear hw
                  go_wp2_with (first
                    | ((with_reducible refine wpList_execW (exec_loadA (aggF xi xg) ?_ HE.out) ?_ ?_); rfl; rfl; go_frame)
                    | ((with_reducible refine wpList_execW (HG.out _ _ _ _ _ _ _ _ ?_ ?_) ?_ ?_); rfl; rfl; rfl; go_frame)
                    | fail)
                  go_roundw
                  case rel => exact ⟨j + 1, by omega, by go_num, HB.out⟩
                  case measure => simp [intOf]; omega
                · have hb2 : (ph' != 2) = true := by simp [h2]
                  go_wp2_with fail
                  refine (p_phase hPi.both.p).mono ?_
                  rintro e w10 ⟨rfl, hw⟩
                  obtain rfl := hw.symm
                  clear hw
                  go_wp2_with (first
                      | ((with_reducible refine wpList_execW (exec_loadA (aggF xi xg) ?_ HE.out) ?_ ?_); rfl; (first | rfl | (go_simp; done) | (simp [go_sem, h2]; done)); go_frame)
                      | fail)
                  refine (p_mode_out hPi.both.p h2 xi xg).mono ?_
                  rintro e w11 ⟨rfl, hb11⟩
                  have hPj := hPi.keep hb11
                  have HB2 := Lib.hid (HB.out.trans (hb11.mono HB.out.size))
                  clear hb11
                  go_wp2_with fail
                  refine (p_phase hPj.both.p).mono ?_
                  rintro e w10 ⟨rfl, hw⟩
                  obtain rfl := hw.symm
                  clear hw
                  go_wp2_with fail
                  go_roundw
                  case rel => exact ⟨j + 1, by omega, by go_num, HB2.out⟩
                  case measure => simp [intOf]; omega
              · have hjl' : (FL9.length : Int) ≤ (j : Int) := by omega
                have HPi := Lib.hid (hP9.keep hbi)
                clear hP9 hbi hx9
                go_wp2
                go_roundw
                case rel => exact ⟨k + 1, by omega, by go_num, _, _, _, _, _, _, _, rfl, HI9.out, HPi.out⟩
                case measure => simp [intOf]; omega
        · skip
          as_aux_lemma =>
            go_wp2_with fail
            refine (p_all hP8.both.p (by omega)).mono ?_
            rintro e w9 ⟨⟨v9, FL9, rfl, hF9, hl9, hR9⟩, hb9⟩
            have hP9 := hP8.keep hb9
            have HF9 := Lib.hid hF9
            obtain ⟨ao9, cap9, rfl, hcl9, hcm9, hx9⟩ := hR9.sl
            unfold maxLen at hcm9
            clear hP8 hb9 hF9 hR9
            go_wp2
            go_loopw [15] (fun jv wi => ∃ j : Nat, j ≤ FL9.length ∧ jv = .int .i64 j ∧ Below w9.heap.size w9 wi) (fun jv _ => FL9.length - (intOf jv).toNat)
            case atStart => exact ⟨0, Nat.zero_le _, rfl, Below.refl _ _⟩
            case round =>
              obtain ⟨j, hj, rfl, hbi⟩ := hrel
              by_cases hjl : j < FL9.length
              · have hPi := hP9.keep hbi
                obtain ⟨b9, off9, rfl, hb9', hc9⟩ := hx9 (by omega)
                have hE := (hc9 j _ (List.getElem?_eq_getElem hjl)).below' hbi hb9'
                have hmem := List.getElem_mem hjl
                have hjl' : (j : Int) < (FL9.length : Int) := by omega
                clear hc9 hx9
                generalize FL9[j] = f9 at *
                obtain ⟨xi, xg⟩ := f9
                have HE : Hid (Lies wr b9 (off9 + j * 2) #[.int .i64 xi, .int .i64 xg]) := Lib.hid hE
                have HB := Lib.hid hbi
                have HMM := Lib.hid hmem
                clear hE hbi hmem
                by_cases h2 : ph' = 2
                · subst h2
                  go_wp2_with fail
                  refine (p_phase hPi.both.p).mono ?_
                  rintro e w10 ⟨rfl, hw⟩
                  obtain rfl := hw.symm
                  clear hw
                  go_wp2_with fail
                  go_roundw
                  case rel => exact ⟨j + 1, by omega, by go_num, HB.out⟩
                  case measure => simp [intOf]; omega
                · have hb2 : (ph' != 2) = true := by simp [h2]
                  go_wp2_with fail
                  refine (p_phase hPi.both.p).mono ?_
                  rintro e w10 ⟨rfl, hw⟩
                  obtain rfl := hw.symm
                  clear hw
                  go_wp2_with (first
                      | ((with_reducible refine wpList_execW (exec_loadA (aggF xi xg) ?_ HE.out) ?_ ?_); rfl; (first | rfl | (go_simp; done) | (simp [go_sem, h2]; done)); go_frame)
                      | fail)
                  refine (p_mode_out hPi.both.p h2 xi xg).mono ?_
                  rintro e w11 ⟨rfl, hb11⟩
                  have hPj := hPi.keep hb11
                  have HB2 := Lib.hid (HB.out.trans (hb11.mono HB.out.size))
                  clear hb11
                  go_wp2_with fail
                  go_roundw
                  case rel => exact ⟨j + 1, by omega, by go_num, HB2.out⟩
                  case measure => simp [intOf]; omega
              · have hjl' : (FL9.length : Int) ≤ (j : Int) := by omega
                have HPi := Lib.hid (hP9.keep hbi)
                clear hP9 hbi hx9
                go_wp2
                go_roundw
                case rel => exact ⟨k + 1, by omega, by go_num, _, _, _, _, _, _, _, rfl, HI9.out, HPi.out⟩
                case measure => simp [intOf]; omega
      · have e8 : C8 = C := by rw [← HC8.out]; unfold noted; rw [if_neg (by omega), if_pos rfl, HNX.out]; rfl
        obtain ⟨w8, rfl⟩ : ∃ w8, w8 = w7 := ⟨_, rfl⟩
        obtain ⟨cm8, rfl⟩ : ∃ x, x = cm := ⟨_, rfl⟩
        have hP8 := hP7
        rw [← e8] at hP8
        clear e8 hP7 hX7 hX7lt hxb4
        go_upto_region 19 with (fail)
        by_cases h1 : ph = 1
        · subst h1
          as_aux_lemma =>
            go_wp2_with fail
            refine (p_all hP8.both.p (by omega)).mono ?_
            rintro e w9 ⟨⟨v9, FL9, rfl, hF9, hl9, hR9⟩, hb9⟩
            have hP9 := hP8.keep hb9
            have HF9 := Lib.hid hF9
            obtain ⟨ao9, cap9, rfl, hcl9, hcm9, hx9⟩ := hR9.sl
            unfold maxLen at hcm9
            clear hP8 hb9 hF9 hR9
            go_wp2
            go_loopw [15] (fun jv wi => ∃ j : Nat, j ≤ FL9.length ∧ jv = .int .i64 j ∧ Below w9.heap.size w9 wi) (fun jv _ => FL9.length - (intOf jv).toNat)
            case atStart => exact ⟨0, Nat.zero_le _, rfl, Below.refl _ _⟩
            case round =>
              obtain ⟨j, hj, rfl, hbi⟩ := hrel
              by_cases hjl : j < FL9.length
              · have hPi := hP9.keep hbi
                obtain ⟨b9, off9, rfl, hb9', hc9⟩ := hx9 (by omega)
                have hE := (hc9 j _ (List.getElem?_eq_getElem hjl)).below' hbi hb9'
                have hmem := List.getElem_mem hjl
                have hjl' : (j : Int) < (FL9.length : Int) := by omega
                clear hc9 hx9
                generalize FL9[j] = f9 at *
                obtain ⟨xi, xg⟩ := f9
                have HE : Hid (Lies wr b9 (off9 + j * 2) #[.int .i64 xi, .int .i64 xg]) := Lib.hid hE
                have HB := Lib.hid hbi
                have HMM := Lib.hid hmem
                clear hE hbi hmem
                by_cases h2 : ph' = 2
                · subst h2
                  go_wp2_with fail
                  refine (p_phase hPi.both.p).mono ?_
                  rintro e w10 ⟨rfl, hw⟩
                  obtain rfl := hw.symm
                  clear hw
                  have hz := HZ.out _ HF9.out rfl rfl (xi, xg) HMM.out
                  have hget := fun (ρ : Operand → Value) dst ty pos after gd x k hx hk => hPi.map.exec_get (ρ := ρ) (dst := dst) (ty := ty) (pos := pos) (after := after) (gd := gd) (x := x) (k := k) hx xi xg hk
                  rw [hz] at hget
                  have HG := Lib.hid hget
                  clear hz hget
                  go_wp2_with fail
                  refine (p_phase hPi.both.p).mono ?_
                  rintro e w10 ⟨rfl, hw⟩
                  obtain rfl := hw.symm
                  clear hw
                  go_wp2_with (first
                    | ((with_reducible refine wpList_execW (exec_loadA (aggF xi xg) ?_ HE.out) ?_ ?_); rfl; rfl; go_frame)
                    | ((with_reducible refine wpList_execW (HG.out _ _ _ _ _ _ _ _ ?_ ?_) ?_ ?_); rfl; rfl; rfl; go_frame)
                    | fail)
                  go_roundw
                  case rel => exact ⟨j + 1, by omega, by go_num, HB.out⟩
                  case measure => simp [intOf]; omega
                · have hb2 : (ph' != 2) = true := by simp [h2]
                  go_wp2_with fail
                  refine (p_phase hPi.both.p).mono ?_
                  rintro e w10 ⟨rfl, hw⟩
                  obtain rfl := hw.symm
                  clear hw
                  go_wp2_with (first
                      | ((with_reducible refine wpList_execW (exec_loadA (aggF xi xg) ?_ HE.out) ?_ ?_); rfl; (first | rfl | (go_simp; done) | (simp [go_sem, h2]; done)); go_frame)
                      | fail)
                  refine (p_mode_out hPi.both.p h2 xi xg).mono ?_
                  rintro e w11 ⟨rfl, hb11⟩
                  have hPj := hPi.keep hb11
                  have HB2 := Lib.hid (HB.out.trans (hb11.mono HB.out.size))
                  clear hb11
                  go_wp2_with fail
                  refine (p_phase hPj.both.p).mono ?_
                  rintro e w10 ⟨rfl, hw⟩
                  obtain rfl := hw.symm
                  clear hw
                  go_wp2_with fail
                  go_roundw
                  case rel => exact ⟨j + 1, by omega, by go_num, HB2.out⟩
                  case measure => simp [intOf]; omega
              · have hjl' : (FL9.length : Int) ≤ (j : Int) := by omega
                have HPi := Lib.hid (hP9.keep hbi)
                clear hP9 hbi hx9
                go_wp2
                go_roundw
                case rel => exact ⟨k + 1, by omega, by go_num, _, _, _, _, _, _, _, rfl, HI9.out, HPi.out⟩
                case measure => simp [intOf]; omega
        · skip
          as_aux_lemma =>
            go_wp2_with fail
            refine (p_all hP8.both.p (by omega)).mono ?_
            rintro e w9 ⟨⟨v9, FL9, rfl, hF9, hl9, hR9⟩, hb9⟩
            have hP9 := hP8.keep hb9
            have HF9 := Lib.hid hF9
            obtain ⟨ao9, cap9, rfl, hcl9, hcm9, hx9⟩ := hR9.sl
            unfold maxLen at hcm9
            clear hP8 hb9 hF9 hR9
            go_wp2
            go_loopw [15] (fun jv wi => ∃ j : Nat, j ≤ FL9.length ∧ jv = .int .i64 j ∧ Below w9.heap.size w9 wi) (fun jv _ => FL9.length - (intOf jv).toNat)
            case atStart => exact ⟨0, Nat.zero_le _, rfl, Below.refl _ _⟩
            case round =>
              obtain ⟨j, hj, rfl, hbi⟩ := hrel
              by_cases hjl : j < FL9.length
              · have hPi := hP9.keep hbi
                obtain ⟨b9, off9, rfl, hb9', hc9⟩ := hx9 (by omega)
                have hE := (hc9 j _ (List.getElem?_eq_getElem hjl)).below' hbi hb9'
                have hmem := List.getElem_mem hjl
                have hjl' : (j : Int) < (FL9.length : Int) := by omega
                clear hc9 hx9
                generalize FL9[j] = f9 at *
                obtain ⟨xi, xg⟩ := f9
                have HE : Hid (Lies wr b9 (off9 + j * 2) #[.int .i64 xi, .int .i64 xg]) := Lib.hid hE
                have HB := Lib.hid hbi
                have HMM := Lib.hid hmem
                clear hE hbi hmem
                by_cases h2 : ph' = 2
                · subst h2
                  go_wp2_with fail
                  refine (p_phase hPi.both.p).mono ?_
                  rintro e w10 ⟨rfl, hw⟩
                  obtain rfl := hw.symm
                  clear hw
                  go_wp2_with fail
                  go_roundw
                  case rel => exact ⟨j + 1, by omega, by go_num, HB.out⟩
                  case measure => simp [intOf]; omega
                · have hb2 : (ph' != 2) = true := by simp [h2]
                  go_wp2_with fail
                  refine (p_phase hPi.both.p).mono ?_
                  rintro e w10 ⟨rfl, hw⟩
                  obtain rfl := hw.symm
                  clear hw
                  go_wp2_with (first
                      | ((with_reducible refine wpList_execW (exec_loadA (aggF xi xg) ?_ HE.out) ?_ ?_); rfl; (first | rfl | (go_simp; done) | (simp [go_sem, h2]; done)); go_frame)
                      | fail)
                  refine (p_mode_out hPi.both.p h2 xi xg).mono ?_
                  rintro e w11 ⟨rfl, hb11⟩
                  have hPj := hPi.keep hb11
                  have HB2 := Lib.hid (HB.out.trans (hb11.mono HB.out.size))
                  clear hb11
                  go_wp2_with fail
                  go_roundw
                  case rel => exact ⟨j + 1, by omega, by go_num, HB2.out⟩
                  case measure => simp [intOf]; omega
              · have hjl' : (FL9.length : Int) ≤ (j : Int) := by omega
                have HPi := Lib.hid (hP9.keep hbi)
                clear hP9 hbi hx9
                go_wp2
                go_roundw
                case rel => exact ⟨k + 1, by omega, by go_num, _, _, _, _, _, _, _, rfl, HI9.out, HPi.out⟩
                case measure => simp [intOf]; omega
      · have e8 : C8 = fun _ => false := by rw [← HC8.out]; unfold noted; rw [if_neg (by omega), if_neg (by omega), if_pos ⟨rfl, hn⟩]
        have hP8 := hP7.fresh
        rw [← e8] at hP8
        go_wp2_with fail
        refine (p_boot hP7.both.p).mono ?_
        rintro e w9 ⟨rfl, hw⟩
        obtain rfl := hw.symm
        clear hw
        clear e8 hP7 hX7 hX7lt hxb4
        have hmm := HM.out
        go_upto_region 19 with (fail)
        clear hmm
        generalize w7.heap.size = cm8 at *
        generalize w7.alloc (.map #[] 0) = w8 at *
        by_cases h1 : ph = 1
        · subst h1
          as_aux_lemma =>
            go_wp2_with fail
            refine (p_all hP8.both.p (by omega)).mono ?_
            rintro e w9 ⟨⟨v9, FL9, rfl, hF9, hl9, hR9⟩, hb9⟩
            have hP9 := hP8.keep hb9
            have HF9 := Lib.hid hF9
            obtain ⟨ao9, cap9, rfl, hcl9, hcm9, hx9⟩ := hR9.sl
            unfold maxLen at hcm9
            clear hP8 hb9 hF9 hR9
            go_wp2
            go_loopw [15] (fun jv wi => ∃ j : Nat, j ≤ FL9.length ∧ jv = .int .i64 j ∧ Below w9.heap.size w9 wi) (fun jv _ => FL9.length - (intOf jv).toNat)
            case atStart => exact ⟨0, Nat.zero_le _, rfl, Below.refl _ _⟩
            case round =>
              obtain ⟨j, hj, rfl, hbi⟩ := hrel
              by_cases hjl : j < FL9.length
              · have hPi := hP9.keep hbi
                obtain ⟨b9, off9, rfl, hb9', hc9⟩ := hx9 (by omega)
                have hE := (hc9 j _ (List.getElem?_eq_getElem hjl)).below' hbi hb9'
                have hmem := List.getElem_mem hjl
                have hjl' : (j : Int) < (FL9.length : Int) := by omega
                clear hc9 hx9
                generalize FL9[j] = f9 at *
                obtain ⟨xi, xg⟩ := f9
                have HE : Hid (Lies wr b9 (off9 + j * 2) #[.int .i64 xi, .int .i64 xg]) := Lib.hid hE
                have HB := Lib.hid hbi
                have HMM := Lib.hid hmem
                clear hE hbi hmem
                by_cases h2 : ph' = 2
                · subst h2
                  go_wp2_with fail
                  refine (p_phase hPi.both.p).mono ?_
                  rintro e w10 ⟨rfl, hw⟩
                  obtain rfl := hw.symm
                  clear hw
                  have hz := HZ.out _ HF9.out rfl rfl (xi, xg) HMM.out
                  have hget := fun (ρ : Operand → Value) dst ty pos after gd x k hx hk => hPi.map.exec_get (ρ := ρ) (dst := dst) (ty := ty) (pos := pos) (after := after) (gd := gd) (x := x) (k := k) hx xi xg hk
                  rw [hz] at hget
                  have HG := Lib.hid hget
                  clear hz hget
                  go_wp2_with fail
                  refine (p_phase hPi.both.p).mono ?_
                  rintro e w10 ⟨rfl, hw⟩
                  obtain rfl := hw.symm
                  clear hw
                  go_wp2_with (first
                    | ((with_reducible refine wpList_execW (exec_loadA (aggF xi xg) ?_ HE.out) ?_ ?_); rfl; rfl; go_frame)
                    | ((with_reducible refine wpList_execW (HG.out _ _ _ _ _ _ _ _ ?_ ?_) ?_ ?_); rfl; rfl; rfl; go_frame)
                    | fail)
                  go_roundw
                  case rel => exact ⟨j + 1, by omega, by go_num, HB.out⟩
                  case measure => simp [intOf]; omega
                · have hb2 : (ph' != 2) = true := by simp [h2]
                  go_wp2_with fail
                  refine (p_phase hPi.both.p).mono ?_
                  rintro e w10 ⟨rfl, hw⟩
                  obtain rfl := hw.symm
                  clear hw
                  go_wp2_with (first
                      | ((with_reducible refine wpList_execW (exec_loadA (aggF xi xg) ?_ HE.out) ?_ ?_); rfl; (first | rfl | (go_simp; done) | (simp [go_sem, h2]; done)); go_frame)
                      | fail)
                  refine (p_mode_out hPi.both.p h2 xi xg).mono ?_
                  rintro e w11 ⟨rfl, hb11⟩
                  have hPj := hPi.keep hb11
                  have HB2 := Lib.hid (HB.out.trans (hb11.mono HB.out.size))
                  clear hb11
                  go_wp2_with fail
                  refine (p_phase hPj.both.p).mono ?_
                  rintro e w10 ⟨rfl, hw⟩
                  obtain rfl := hw.symm
                  clear hw
                  go_wp2_with fail
                  go_roundw
                  case rel => exact ⟨j + 1, by omega, by go_num, HB2.out⟩
                  case measure => simp [intOf]; omega
              · have hjl' : (FL9.length : Int) ≤ (j : Int) := by omega
                have HPi := Lib.hid (hP9.keep hbi)
                clear hP9 hbi hx9
                go_wp2
                go_roundw
                case rel => exact ⟨k + 1, by omega, by go_num, _, _, _, _, _, _, _, rfl, HI9.out, HPi.out⟩
                case measure => simp [intOf]; omega
        · skip
          as_aux_lemma =>
            go_wp2_with fail
            refine (p_all hP8.both.p (by omega)).mono ?_
            rintro e w9 ⟨⟨v9, FL9, rfl, hF9, hl9, hR9⟩, hb9⟩
            have hP9 := hP8.keep hb9
            have HF9 := Lib.hid hF9
            obtain ⟨ao9, cap9, rfl, hcl9, hcm9, hx9⟩ := hR9.sl
            unfold maxLen at hcm9
            clear hP8 hb9 hF9 hR9
            go_wp2
            go_loopw [15] (fun jv wi => ∃ j : Nat, j ≤ FL9.length ∧ jv = .int .i64 j ∧ Below w9.heap.size w9 wi) (fun jv _ => FL9.length - (intOf jv).toNat)
            case atStart => exact ⟨0, Nat.zero_le _, rfl, Below.refl _ _⟩
            case round =>
              obtain ⟨j, hj, rfl, hbi⟩ := hrel
              by_cases hjl : j < FL9.length
              · have hPi := hP9.keep hbi
                obtain ⟨b9, off9, rfl, hb9', hc9⟩ := hx9 (by omega)
                have hE := (hc9 j _ (List.getElem?_eq_getElem hjl)).below' hbi hb9'
                have hmem := List.getElem_mem hjl
                have hjl' : (j : Int) < (FL9.length : Int) := by omega
                clear hc9 hx9
                generalize FL9[j] = f9 at *
                obtain ⟨xi, xg⟩ := f9
                have HE : Hid (Lies wr b9 (off9 + j * 2) #[.int .i64 xi, .int .i64 xg]) := Lib.hid hE
                have HB := Lib.hid hbi
                have HMM := Lib.hid hmem
                clear hE hbi hmem
                by_cases h2 : ph' = 2
                · subst h2
                  go_wp2_with fail
                  refine (p_phase hPi.both.p).mono ?_
                  rintro e w10 ⟨rfl, hw⟩
                  obtain rfl := hw.symm
                  clear hw
                  go_wp2_with fail
                  go_roundw
                  case rel => exact ⟨j + 1, by omega, by go_num, HB.out⟩
                  case measure => simp [intOf]; omega
                · have hb2 : (ph' != 2) = true := by simp [h2]
                  go_wp2_with fail
                  refine (p_phase hPi.both.p).mono ?_
                  rintro e w10 ⟨rfl, hw⟩
                  obtain rfl := hw.symm
                  clear hw
                  go_wp2_with (first
                      | ((with_reducible refine wpList_execW (exec_loadA (aggF xi xg) ?_ HE.out) ?_ ?_); rfl; (first | rfl | (go_simp; done) | (simp [go_sem, h2]; done)); go_frame)
                      | fail)
                  refine (p_mode_out hPi.both.p h2 xi xg).mono ?_
                  rintro e w11 ⟨rfl, hb11⟩
                  have hPj := hPi.keep hb11
                  have HB2 := Lib.hid (HB.out.trans (hb11.mono HB.out.size))
                  clear hb11
                  go_wp2_with fail
                  go_roundw
                  case rel => exact ⟨j + 1, by omega, by go_num, HB2.out⟩
                  case measure => simp [intOf]; omega
              · have hjl' : (FL9.length : Int) ≤ (j : Int) := by omega
                have HPi := Lib.hid (hP9.keep hbi)
                clear hP9 hbi hx9
                go_wp2
                go_roundw
                case rel => exact ⟨k + 1, by omega, by go_num, _, _, _, _, _, _, _, rfl, HI9.out, HPi.out⟩
                case measure => simp [intOf]; omega
      · have e8 : C8 = C := by rw [← HC8.out]; unfold noted; rw [if_neg (by omega), if_neg (by omega), if_neg (fun e => e.2 rfl)]
        obtain ⟨w8, rfl⟩ : ∃ w8, w8 = w7 := ⟨_, rfl⟩
        obtain ⟨cm8, rfl⟩ : ∃ x, x = cm := ⟨_, rfl⟩
        have hP8 := hP7
        rw [← e8] at hP8
        clear e8 hP7 hX7 hX7lt hxb4
        go_wp2_with fail
        refine (p_boot hP8.both.p).mono ?_
        rintro e w9 ⟨rfl, hw⟩
        obtain rfl := hw.symm
        clear hw
        go_upto_region 19 with (fail)
        by_cases h1 : ph = 1
        · subst h1
          as_aux_lemma =>
            go_wp2_with fail
            refine (p_all hP8.both.p (by omega)).mono ?_
            rintro e w9 ⟨⟨v9, FL9, rfl, hF9, hl9, hR9⟩, hb9⟩
            have hP9 := hP8.keep hb9
            have HF9 := Lib.hid hF9
            obtain ⟨ao9, cap9, rfl, hcl9, hcm9, hx9⟩ := hR9.sl
            unfold maxLen at hcm9
            clear hP8 hb9 hF9 hR9
            go_wp2
            go_loopw [15] (fun jv wi => ∃ j : Nat, j ≤ FL9.length ∧ jv = .int .i64 j ∧ Below w9.heap.size w9 wi) (fun jv _ => FL9.length - (intOf jv).toNat)
            case atStart => exact ⟨0, Nat.zero_le _, rfl, Below.refl _ _⟩
            case round =>
              obtain ⟨j, hj, rfl, hbi⟩ := hrel
              by_cases hjl : j < FL9.length
              · have hPi := hP9.keep hbi
                obtain ⟨b9, off9, rfl, hb9', hc9⟩ := hx9 (by omega)
                have hE := (hc9 j _ (List.getElem?_eq_getElem hjl)).below' hbi hb9'
                have hmem := List.getElem_mem hjl
                have hjl' : (j : Int) < (FL9.length : Int) := by omega
                clear hc9 hx9
                generalize FL9[j] = f9 at *
                obtain ⟨xi, xg⟩ := f9
                have HE : Hid (Lies wr b9 (off9 + j * 2) #[.int .i64 xi, .int .i64 xg]) := Lib.hid hE
                have HB := Lib.hid hbi
                have HMM := Lib.hid hmem
                clear hE hbi hmem
                by_cases h2 : ph' = 2
                · subst h2
                  go_wp2_with fail
                  refine (p_phase hPi.both.p).mono ?_
                  rintro e w10 ⟨rfl, hw⟩
                  obtain rfl := hw.symm
                  clear hw
                  have hz := HZ.out _ HF9.out rfl rfl (xi, xg) HMM.out
                  have hget := fun (ρ : Operand → Value) dst ty pos after gd x k hx hk => hPi.map.exec_get (ρ := ρ) (dst := dst) (ty := ty) (pos := pos) (after := after) (gd := gd) (x := x) (k := k) hx xi xg hk
                  rw [hz] at hget
                  have HG := Lib.hid hget
                  clear hz hget
                  go_wp2_with fail
                  refine (p_phase hPi.both.p).mono ?_
                  rintro e w10 ⟨rfl, hw⟩
                  obtain rfl := hw.symm
                  clear hw
                  go_wp2_with (first
                    | ((with_reducible refine wpList_execW (exec_loadA (aggF xi xg) ?_ HE.out) ?_ ?_); rfl; rfl; go_frame)
                    | ((with_reducible refine wpList_execW (HG.out _ _ _ _ _ _ _ _ ?_ ?_) ?_ ?_); rfl; rfl; rfl; go_frame)
                    | fail)
                  go_roundw
                  case rel => exact ⟨j + 1, by omega, by go_num, HB.out⟩
                  case measure => simp [intOf]; omega
                · have hb2 : (ph' != 2) = true := by simp [h2]
                  go_wp2_with fail
                  refine (p_phase hPi.both.p).mono ?_
                  rintro e w10 ⟨rfl, hw⟩
                  obtain rfl := hw.symm
                  clear hw
                  go_wp2_with (first
                      | ((with_reducible refine wpList_execW (exec_loadA (aggF xi xg) ?_ HE.out) ?_ ?_); rfl; (first | rfl | (go_simp; done) | (simp [go_sem, h2]; done)); go_frame)
                      | fail)
                  refine (p_mode_out hPi.both.p h2 xi xg).mono ?_
                  rintro e w11 ⟨rfl, hb11⟩
                  have hPj := hPi.keep hb11
                  have HB2 := Lib.hid (HB.out.trans (hb11.mono HB.out.size))
                  clear hb11
                  go_wp2_with fail
                  refine (p_phase hPj.both.p).mono ?_
                  rintro e w10 ⟨rfl, hw⟩
                  obtain rfl := hw.symm
                  clear hw
                  go_wp2_with fail
                  go_roundw
                  case rel => exact ⟨j + 1, by omega, by go_num, HB2.out⟩
                  case measure => simp [intOf]; omega
              · have hjl' : (FL9.length : Int) ≤ (j : Int) := by omega
                have HPi := Lib.hid (hP9.keep hbi)
                clear hP9 hbi hx9
                go_wp2
                go_roundw
                case rel => exact ⟨k + 1, by omega, by go_num, _, _, _, _, _, _, _, rfl, HI9.out, HPi.out⟩
                case measure => simp [intOf]; omega
        · skip
          as_aux_lemma =>
            go_wp2_with fail
            refine (p_all hP8.both.p (by omega)).mono ?_
            rintro e w9 ⟨⟨v9, FL9, rfl, hF9, hl9, hR9⟩, hb9⟩
            have hP9 := hP8.keep hb9
            have HF9 := Lib.hid hF9
            obtain ⟨ao9, cap9, rfl, hcl9, hcm9, hx9⟩ := hR9.sl
            unfold maxLen at hcm9
            clear hP8 hb9 hF9 hR9
            go_wp2
            go_loopw [15] (fun jv wi => ∃ j : Nat, j ≤ FL9.length ∧ jv = .int .i64 j ∧ Below w9.heap.size w9 wi) (fun jv _ => FL9.length - (intOf jv).toNat)
            case atStart => exact ⟨0, Nat.zero_le _, rfl, Below.refl _ _⟩
            case round =>
              obtain ⟨j, hj, rfl, hbi⟩ := hrel
              by_cases hjl : j < FL9.length
              · have hPi := hP9.keep hbi
                obtain ⟨b9, off9, rfl, hb9', hc9⟩ := hx9 (by omega)
                have hE := (hc9 j _ (List.getElem?_eq_getElem hjl)).below' hbi hb9'
                have hmem := List.getElem_mem hjl
                have hjl' : (j : Int) < (FL9.length : Int) := by omega
                clear hc9 hx9
                generalize FL9[j] = f9 at *
                obtain ⟨xi, xg⟩ := f9
                have HE : Hid (Lies wr b9 (off9 + j * 2) #[.int .i64 xi, .int .i64 xg]) := Lib.hid hE
                have HB := Lib.hid hbi
                have HMM := Lib.hid hmem
                clear hE hbi hmem
                by_cases h2 : ph' = 2
                · subst h2
                  go_wp2_with fail
                  refine (p_phase hPi.both.p).mono ?_
                  rintro e w10 ⟨rfl, hw⟩
                  obtain rfl := hw.symm
                  clear hw
                  go_wp2_with fail
                  go_roundw
                  case rel => exact ⟨j + 1, by omega, by go_num, HB.out⟩
                  case measure => simp [intOf]; omega
                · have hb2 : (ph' != 2) = true := by simp [h2]
                  go_wp2_with fail
                  refine (p_phase hPi.both.p).mono ?_
                  rintro e w10 ⟨rfl, hw⟩
                  obtain rfl := hw.symm
                  clear hw
                  go_wp2_with (first
                      | ((with_reducible refine wpList_execW (exec_loadA (aggF xi xg) ?_ HE.out) ?_ ?_); rfl; (first | rfl | (go_simp; done) | (simp [go_sem, h2]; done)); go_frame)
                      | fail)
                  refine (p_mode_out hPi.both.p h2 xi xg).mono ?_
                  rintro e w11 ⟨rfl, hb11⟩
                  have hPj := hPi.keep hb11
                  have HB2 := Lib.hid (HB.out.trans (hb11.mono HB.out.size))
                  clear hb11
                  go_wp2_with fail
                  go_roundw
                  case rel => exact ⟨j + 1, by omega, by go_num, HB2.out⟩
                  case measure => simp [intOf]; omega
              · have hjl' : (FL9.length : Int) ≤ (j : Int) := by omega
                have HPi := Lib.hid (hP9.keep hbi)
                clear hP9 hbi hx9
                go_wp2
                go_roundw
                case rel => exact ⟨k + 1, by omega, by go_num, _, _, _, _, _, _, _, rfl, HI9.out, HPi.out⟩
                case measure => simp [intOf]; omega
      · have e8 : C8 = C := by rw [← HC8.out]; unfold noted; rw [if_neg (by omega), if_neg (by omega), if_neg (by omega)]
        obtain ⟨w8, rfl⟩ : ∃ w8, w8 = w7 := ⟨_, rfl⟩
        obtain ⟨cm8, rfl⟩ : ∃ x, x = cm := ⟨_, rfl⟩
        have hP8 := hP7
        rw [← e8] at hP8
        clear e8 hP7 hX7 hX7lt hxb4
        go_upto_region 19 with (fail)
        by_cases h1 : ph = 1
        · subst h1
          as_aux_lemma =>
            go_wp2_with fail
            refine (p_all hP8.both.p (by omega)).mono ?_
            rintro e w9 ⟨⟨v9, FL9, rfl, hF9, hl9, hR9⟩, hb9⟩
            have hP9 := hP8.keep hb9
            have HF9 := Lib.hid hF9
            obtain ⟨ao9, cap9, rfl, hcl9, hcm9, hx9⟩ := hR9.sl
            unfold maxLen at hcm9
            clear hP8 hb9 hF9 hR9
            go_wp2
            go_loopw [15] (fun jv wi => ∃ j : Nat, j ≤ FL9.length ∧ jv = .int .i64 j ∧ Below w9.heap.size w9 wi) (fun jv _ => FL9.length - (intOf jv).toNat)
            case atStart => exact ⟨0, Nat.zero_le _, rfl, Below.refl _ _⟩
            case round =>
              obtain ⟨j, hj, rfl, hbi⟩ := hrel
              by_cases hjl : j < FL9.length
              · have hPi := hP9.keep hbi
                obtain ⟨b9, off9, rfl, hb9', hc9⟩ := hx9 (by omega)
                have hE := (hc9 j _ (List.getElem?_eq_getElem hjl)).below' hbi hb9'
                have hmem := List.getElem_mem hjl
                have hjl' : (j : Int) < (FL9.length : Int) := by omega
                clear hc9 hx9
                generalize FL9[j] = f9 at *
                obtain ⟨xi, xg⟩ := f9
                have HE : Hid (Lies wr b9 (off9 + j * 2) #[.int .i64 xi, .int .i64 xg]) := Lib.hid hE
                have HB := Lib.hid hbi
                have HMM := Lib.hid hmem
                clear hE hbi hmem
                by_cases h2 : ph' = 2
                · subst h2
                  go_wp2_with fail
                  refine (p_phase hPi.both.p).mono ?_
                  rintro e w10 ⟨rfl, hw⟩
                  obtain rfl := hw.symm
                  clear hw
                  have hz := HZ.out _ HF9.out rfl rfl (xi, xg) HMM.out
                  have hget := fun (ρ : Operand → Value) dst ty pos after gd x k hx hk => hPi.map.exec_get (ρ := ρ) (dst := dst) (ty := ty) (pos := pos) (after := after) (gd := gd) (x := x) (k := k) hx xi xg hk
                  rw [hz] at hget
                  have HG := Lib.hid hget
                  clear hz hget
                  go_wp2_with fail
                  refine (p_phase hPi.both.p).mono ?_
                  rintro e w10 ⟨rfl, hw⟩
                  obtain rfl := hw.symm
                  clear hw
                  go_wp2_with (first
                    | ((with_reducible refine wpList_execW (exec_loadA (aggF xi xg) ?_ HE.out) ?_ ?_); rfl; rfl; go_frame)
                    | ((with_reducible refine wpList_execW (HG.out _ _ _ _ _ _ _ _ ?_ ?_) ?_ ?_); rfl; rfl; rfl; go_frame)
                    | fail)
                  go_roundw
                  case rel => exact ⟨j + 1, by omega, by go_num, HB.out⟩
                  case measure => simp [intOf]; omega
                · have hb2 : (ph' != 2) = true := by simp [h2]
                  go_wp2_with fail
                  refine (p_phase hPi.both.p).mono ?_
                  rintro e w10 ⟨rfl, hw⟩
                  obtain rfl := hw.symm
                  clear hw
                  go_wp2_with (first
                      | ((with_reducible refine wpList_execW (exec_loadA (aggF xi xg) ?_ HE.out) ?_ ?_); rfl; (first | rfl | (go_simp; done) | (simp [go_sem, h2]; done)); go_frame)
                      | fail)
                  refine (p_mode_out hPi.both.p h2 xi xg).mono ?_
                  rintro e w11 ⟨rfl, hb11⟩
                  have hPj := hPi.keep hb11
                  have HB2 := Lib.hid (HB.out.trans (hb11.mono HB.out.size))
                  clear hb11
                  go_wp2_with fail
                  refine (p_phase hPj.both.p).mono ?_
                  rintro e w10 ⟨rfl, hw⟩
                  obtain rfl := hw.symm
                  clear hw
                  go_wp2_with fail
                  go_roundw
                  case rel => exact ⟨j + 1, by omega, by go_num, HB2.out⟩
                  case measure => simp [intOf]; omega
              · have hjl' : (FL9.length : Int) ≤ (j : Int) := by omega
                have HPi := Lib.hid (hP9.keep hbi)
                clear hP9 hbi hx9
                go_wp2
                go_roundw
                case rel => exact ⟨k + 1, by omega, by go_num, _, _, _, _, _, _, _, rfl, HI9.out, HPi.out⟩
                case measure => simp [intOf]; omega
        · skip
          as_aux_lemma =>
            go_wp2_with fail
            refine (p_all hP8.both.p (by omega)).mono ?_
            rintro e w9 ⟨⟨v9, FL9, rfl, hF9, hl9, hR9⟩, hb9⟩
            have hP9 := hP8.keep hb9
            have HF9 := Lib.hid hF9
            obtain ⟨ao9, cap9, rfl, hcl9, hcm9, hx9⟩ := hR9.sl
            unfold maxLen at hcm9
            clear hP8 hb9 hF9 hR9
            go_wp2
            go_loopw [15] (fun jv wi => ∃ j : Nat, j ≤ FL9.length ∧ jv = .int .i64 j ∧ Below w9.heap.size w9 wi) (fun jv _ => FL9.length - (intOf jv).toNat)
            case atStart => exact ⟨0, Nat.zero_le _, rfl, Below.refl _ _⟩
            case round =>
              obtain ⟨j, hj, rfl, hbi⟩ := hrel
              by_cases hjl : j < FL9.length
              · have hPi := hP9.keep hbi
                obtain ⟨b9, off9, rfl, hb9', hc9⟩ := hx9 (by omega)
                have hE := (hc9 j _ (List.getElem?_eq_getElem hjl)).below' hbi hb9'
                have hmem := List.getElem_mem hjl
                have hjl' : (j : Int) < (FL9.length : Int) := by omega
                clear hc9 hx9
                generalize FL9[j] = f9 at *
                obtain ⟨xi, xg⟩ := f9
                have HE : Hid (Lies wr b9 (off9 + j * 2) #[.int .i64 xi, .int .i64 xg]) := Lib.hid hE
                have HB := Lib.hid hbi
                have HMM := Lib.hid hmem
                clear hE hbi hmem
                by_cases h2 : ph' = 2
                · subst h2
                  go_wp2_with fail
                  refine (p_phase hPi.both.p).mono ?_
                  rintro e w10 ⟨rfl, hw⟩
                  obtain rfl := hw.symm
                  clear hw
                  go_wp2_with fail
                  go_roundw
                  case rel => exact ⟨j + 1, by omega, by go_num, HB.out⟩
                  case measure => simp [intOf]; omega
                · have hb2 : (ph' != 2) = true := by simp [h2]
                  go_wp2_with fail
                  refine (p_phase hPi.both.p).mono ?_
                  rintro e w10 ⟨rfl, hw⟩
                  obtain rfl := hw.symm
                  clear hw
                  go_wp2_with (first
                      | ((with_reducible refine wpList_execW (exec_loadA (aggF xi xg) ?_ HE.out) ?_ ?_); rfl; (first | rfl | (go_simp; done) | (simp [go_sem, h2]; done)); go_frame)
                      | fail)
                  refine (p_mode_out hPi.both.p h2 xi xg).mono ?_
                  rintro e w11 ⟨rfl, hb11⟩
                  have hPj := hPi.keep hb11
                  have HB2 := Lib.hid (HB.out.trans (hb11.mono HB.out.size))
                  clear hb11
                  go_wp2_with fail
                  go_roundw
                  case rel => exact ⟨j + 1, by omega, by go_num, HB2.out⟩
                  case measure => simp [intOf]; omega
              · have hjl' : (FL9.length : Int) ≤ (j : Int) := by omega
                have HPi := Lib.hid (hP9.keep hbi)
                clear hP9 hbi hx9
                go_wp2
                go_roundw
                case rel => exact ⟨k + 1, by omega, by go_num, _, _, _, _, _, _, _, rfl, HI9.out, HPi.out⟩
                case measure => simp [intOf]; omega
    · have hstop : (ds.length : Int) ≤ (k : Int) ∨ ((k : Int) < (ds.length : Int) ∧ (60 : Int) ≤ (k : Int)) := by omega
      have hB := hP.bel
      clear hgo hx hP hp hmm hI
      rcases hstop with hstop | ⟨hstop, hstop'⟩
      all_goals
        go_wp2_with fail
        refine (lives_any wr).mono ?_
        rintro e w4 ⟨rfl, hb4⟩
        go_wp2
        go_ret
        exact ⟨rfl, hB.trans (hb4.mono hB.size)⟩
end Go.Proofs.Ythckjciblngaaaa
