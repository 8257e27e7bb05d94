import Derived.Test.YtbdjkbaieokbhaaWa
namespace Go.Proofs.Ytbdjkbaieokbhaa
open Go.RowKit Go.Tn Go.Tn.Ghost

set_option maxHeartbeats 1000000 in
theorem fate_loop (w : World) (b off n cap i : Nat) (E : Nat → Evt) (hE : EvIn w b off n E) (hi : i < n) (hn : n ≤ 60) (hb : b < w.heap.size) (hk : (E i).k = 3) :
    Calls Try.prog 7 #[.slice (some ⟨b, off, none⟩) n cap, .int .i64 i] w
      fun e w' => e = .returned (.int .i64 (fate E n i)) ∧ Below w.heap.size w w' := by
  have hcell := hE.cell0 hi
  rw [hk] at hcell
  go_enter Try.func7, Try.ntmps7
  go_wp2
  clear hcell
  go_loopw [5, 6, 7] (fun f r k wr => ∃ m : Nat, i + 1 + m ≤ n ∧ k = .int .i64 ((i + 1 + m : Nat) : Int) ∧ f = .int .i64 (frun E i m).1 ∧ r = .int .i64 (frun E i m).2 ∧ Below w.heap.size w wr) (fun _ _ k _ => n - (intOf k).toNat)
  case atStart => exact ⟨0, by omega, by go_num, rfl, rfl, Below.refl _ _⟩
  case round =>
    obtain ⟨m, hm, rfl, rfl, rfl, hbw⟩ := hrel
    have hr := frun_rest E i m
    have hEr := hE.below hbw hb
    by_cases hlt : i + 1 + m < n
    · by_cases h2 : (frun E i m).1 = 2
      · have hne : ((frun E i m).1 != 2) = false := by simpa using h2
        have HF := Lib.hid (show (frun E i m).1 = fate E n i by
          unfold fate
          rw [if_pos hk, show n - (i + 1) = m + (n - (i + 1) - m) by omega, frun_two E i m h2])
        clear h2
        generalize frun E i m = s at *
        obtain ⟨f, r⟩ := s
        dsimp only at *
        go_wp2
        go_ret
        exact ⟨by rw [← HF.out]; rfl, hbw⟩
      · have hne : ((frun E i m).1 != 2) = true := by simpa using h2
        have HF := Lib.hid (show frun E i (m + 1) = fstep (E i) (E (i + 1 + m)) (frun E i m) from rfl)
        have hl1 := hEr (i + 1 + m) hlt
        have hl0 := hEr i hi
        clear h2
        generalize frun E i m = s at *
        obtain ⟨f, r⟩ := s
        dsimp only at *
        go_wp2_with (first
          | ((with_reducible refine wpList_loadA (agg39 _) hl1 ?_ ?_); rfl)
          | ((with_reducible refine wpList_storeA_new (agg39 (E (i + 1 + m))) ?_ (evArr_one _) ?_ ?_ ?_); rfl; rfl; rfl))
        have hl2 : Lies (wr.alloc (.cells (evArr (E (i + 1 + m))) 39)).drew wr.heap.size 0 (evArr (E (i + 1 + m))) := by
          intro j hj
          rw [World.cell?_drew, Nat.zero_add]
          exact (World.cell?_alloc_at (evArr (E (i + 1 + m))) 39 wr.heap.size j (w := wr) rfl).trans (Array.getElem?_eq_getElem hj)
        have hl3 : Lies (wr.alloc (.cells (evArr (E (i + 1 + m))) 39)).drew b (off + i * 17) (evArr (E i)) := by
          intro j hj
          rw [World.cell?_drew]
          exact (World.cell?_alloc_lt _ _ _ (by have := hbw.size; simp; omega)).trans (hl0 j hj)
        refine wp_region_tail 5 (by kernel_rfl) (by kernel_rfl) ?_
        simp only [List.take_succ_cons, List.take_zero, List.drop_succ_cons, List.drop_zero]
        repeat (first
          | ((with_reducible refine wpStill_loadA (agg39 (E (i + 1 + m))) hl2 ?_ ?_); rfl)
          | ((with_reducible refine wpStill_loadA (agg39 (E i)) hl3 ?_ ?_); rfl)
          | still_step)
        refine wpStill_nil ?_
        clear hl0 hl1 hl2 hl3
        go_wp2_with fail
        refine (about_any _ _ _).mono ?_
        rintro e w1 ⟨rfl, hb1⟩
        have hbz := hbw.size
        have q0 : w1.cell? ⟨wr.heap.size, 0, none⟩ = some (.int .i64 (E (i + 1 + m)).k) :=
          (hb1.cell (p := ⟨wr.heap.size, 0, none⟩) (by simp)).trans (World.cell?_alloc_at (evArr (E (i + 1 + m))) 39 wr.heap.size 0 (w := wr) rfl)
        have q1 : w1.cell? ⟨wr.heap.size, 1, none⟩ = some (.int .i64 (E (i + 1 + m)).c) :=
          (hb1.cell (p := ⟨wr.heap.size, 1, none⟩) (by simp)).trans (World.cell?_alloc_at (evArr (E (i + 1 + m))) 39 wr.heap.size 1 (w := wr) rfl)
        have q2 : w1.cell? ⟨b, off + i * 17 + 1, none⟩ = some (.int .i64 (E i).c) :=
          (hb1.cell (p := ⟨b, off + i * 17 + 1, none⟩) (by simp; omega)).trans ((World.cell?_alloc_lt _ _ _ (by show b < wr.heap.size; omega)).trans (hEr.cell1 hi))
        have hb2 : Below w.heap.size w w1 := (hbw.alloc (by omega) _).drew.trans (hb1.mono (by simp; omega))
        clear hb1 hE hEr hbw
        have hmm : (i : Int) + 1 + m ≤ 60 := by omega
        generalize E (i + 1 + m) = ek at *
        generalize he0 : E i = e0 at *
        have HE0 := Lib.hid he0
        have HK := Lib.hid hk
        clear he0 hk
        by_cases h3 : ek.k = 3
        · have t3 : (ek.k == 3) = true := by simpa using h3
          cases hh : here ek e0
          · have HS := Lib.hid (show fstep e0 ek (f, r) = (f, r) by simp [fstep, h3, hh])
            clear h3 hh
            go_wp2
            go_roundw
            case rel => exact ⟨m + 1, by omega, by go_num, by rw [HF.out, HS.out], by rw [HF.out, HS.out], hb2⟩
            case measure => simp [intOf]; omega
          · have HS := Lib.hid (show fstep e0 ek (f, r) = (f, r + 1) by simp [fstep, h3, hh]; intro h; subst h; simp at hne)
            clear h3 hh
            go_wp2
            go_roundw
            case rel => exact ⟨m + 1, by omega, by go_num, by rw [HF.out, HS.out], by rw [HF.out, HS.out], hb2⟩
            case measure => simp [intOf]; omega
        · have t3 : (ek.k == 3) = false := by simpa using h3
          by_cases h4 : ek.k = 4
          · have t4 : (ek.k == 4) = true := by simpa using h4
            cases hh : here ek e0
            · have HS := Lib.hid (show fstep e0 ek (f, r) = (f, r) by simp [fstep, h4, hh])
              clear h3 h4 hh
              go_wp2
              go_roundw
              case rel => exact ⟨m + 1, by omega, by go_num, by rw [HF.out, HS.out], by rw [HF.out, HS.out], hb2⟩
              case measure => simp [intOf]; omega
            · by_cases hf1 : f = 1
              · have tf : (f == 1) = true := by simpa using hf1
                have HS := Lib.hid (show fstep e0 ek (f, r) = (2, 0) by simp [fstep, h4, hh, hf1])
                clear h3 h4 hh hf1
                go_wp2
                go_roundw
                case rel => exact ⟨m + 1, by omega, by go_num, by rw [HF.out, HS.out], by rw [HF.out, HS.out], hb2⟩
                case measure => simp [intOf]; omega
              · have tf : (f == 1) = false := by simpa using hf1
                by_cases hr0 : r = 0
                · have tr : (r == 0) = true := by simpa using hr0
                  have HS := Lib.hid (show fstep e0 ek (f, r) = (2, 0) by simp [fstep, h4, hh, hr0])
                  clear h3 h4 hh hf1 hr0
                  go_wp2
                  go_roundw
                  case rel => exact ⟨m + 1, by omega, by go_num, by rw [HF.out, HS.out], by rw [HF.out, HS.out], hb2⟩
                  case measure => simp [intOf]; omega
                · have tr : (r == 0) = false := by simpa using hr0
                  have HS := Lib.hid (show fstep e0 ek (f, r) = (f, 0) by simp [fstep, h4, hh, hf1, hr0]; intro h; subst h; simp at hne)
                  clear h3 h4 hh hf1 hr0
                  go_wp2
                  go_roundw
                  case rel => exact ⟨m + 1, by omega, by go_num, by rw [HF.out, HS.out], by rw [HF.out, HS.out], hb2⟩
                  case measure => simp [intOf]; omega
          · have t4 : (ek.k == 4) = false := by simpa using h4
            by_cases h5 : ek.k = 5
            · have t5 : (ek.k == 5) = true := by simpa using h5
              cases hh : here ek e0
              · have HS := Lib.hid (show fstep e0 ek (f, r) = (f, r) by simp [fstep, h5, hh])
                clear h3 h4 h5 hh
                go_wp2
                go_roundw
                case rel => exact ⟨m + 1, by omega, by go_num, by rw [HF.out, HS.out], by rw [HF.out, HS.out], hb2⟩
                case measure => simp [intOf]; omega
              · have HS := Lib.hid (show fstep e0 ek (f, r) = (3, 0) by simp [fstep, h5, hh]; intro h; subst h; simp at hne)
                clear h3 h4 h5 hh
                go_wp2
                go_roundw
                case rel => exact ⟨m + 1, by omega, by go_num, by rw [HF.out, HS.out], by rw [HF.out, HS.out], hb2⟩
                case measure => simp [intOf]; omega
            · have t5 : (ek.k == 5) = false := by simpa using h5
              by_cases h8 : ek.k = 8 ∨ ek.k = 9
              · by_cases hc : ek.c = e0.c
                · have tc : (ek.c == e0.c) = true := by simpa using hc
                  have HS := Lib.hid (show fstep e0 ek (f, r) = (3, 0) by simp [fstep, h3, h4, h5, h8, hc]; intro h; subst h; simp at hne)
                  clear hc
                  rcases h8 with h8 | h9
                  · have t8 : (ek.k == 8) = true := by simpa using h8
                    clear h3 h4 h5 h8
                    go_wp2
                    go_quiet (fail)
                    go_wp2
                    go_roundw
                    case rel => exact ⟨m + 1, by omega, by go_num, by rw [HF.out, HS.out], by rw [HF.out, HS.out], below_drewN hb2 _⟩
                    case measure => simp [intOf]; omega
                  · have t8 : (ek.k == 8) = false := by simp [h9]
                    have t9 : (ek.k == 9) = true := by simpa using h9
                    clear h3 h4 h5 h9
                    go_wp2
                    go_quiet (fail)
                    go_wp2
                    go_roundw
                    case rel => exact ⟨m + 1, by omega, by go_num, by rw [HF.out, HS.out], by rw [HF.out, HS.out], below_drewN hb2 _⟩
                    case measure => simp [intOf]; omega
                · have tc : (ek.c == e0.c) = false := by simpa using hc
                  have HS := Lib.hid (show fstep e0 ek (f, r) = (f, r) by simp [fstep, h3, h4, h5, h8, hc])
                  clear hc
                  rcases h8 with h8 | h9
                  · have t8 : (ek.k == 8) = true := by simpa using h8
                    clear h3 h4 h5 h8
                    go_wp2
                    go_quiet (fail)
                    go_wp2
                    go_roundw
                    case rel => exact ⟨m + 1, by omega, by go_num, by rw [HF.out, HS.out], by rw [HF.out, HS.out], below_drewN hb2 _⟩
                    case measure => simp [intOf]; omega
                  · have t8 : (ek.k == 8) = false := by simp [h9]
                    have t9 : (ek.k == 9) = true := by simpa using h9
                    clear h3 h4 h5 h9
                    go_wp2
                    go_quiet (fail)
                    go_wp2
                    go_roundw
                    case rel => exact ⟨m + 1, by omega, by go_num, by rw [HF.out, HS.out], by rw [HF.out, HS.out], below_drewN hb2 _⟩
                    case measure => simp [intOf]; omega
              · have HS := Lib.hid (show fstep e0 ek (f, r) = (f, r) by simp [fstep, h3, h4, h5, h8])
                simp only [not_or] at h8
                have t8 : (ek.k == 8) = false := by simpa using h8.1
                have t9 : (ek.k == 9) = false := by simpa using h8.2
                clear h3 h4 h5 h8
                go_wp2
                go_roundw
                case rel => exact ⟨m + 1, by omega, by go_num, by rw [HF.out, HS.out], by rw [HF.out, HS.out], hb2⟩
                case measure => simp [intOf]; omega
    · have HF := Lib.hid (show (frun E i m).1 = fate E n i by
        unfold fate
        rw [if_pos hk, show n - (i + 1) = m by omega])
      generalize frun E i m = s at *
      obtain ⟨f, r⟩ := s
      dsimp only at *
      go_wp2
      go_ret
      exact ⟨by rw [← HF.out]; rfl, hbw⟩

set_option maxHeartbeats 1000000 in
theorem fate_any (w : World) (b off n cap i : Nat) (E : Nat → Evt) (hE : EvIn w b off n E) (hi : i < n) (hn : n ≤ 60) (hb : b < w.heap.size) :
    Calls Try.prog 7 #[.slice (some ⟨b, off, none⟩) n cap, .int .i64 i] w
      fun e w' => e = .returned (.int .i64 (fate E n i)) ∧ Below w.heap.size w w' := by
  by_cases hk : (E i).k = 3
  · exact fate_loop w b off n cap i E hE hi hn hb hk
  · have hcell := hE.cell0 hi
    have hk' : ((E i).k != 3) = true := by simpa using hk
    have HF := Lib.hid (show fate E n i = 0 by simp [fate, hk])
    clear hk
    go_enter Try.func7, Try.ntmps7
    go_wp2
    go_ret
    exact ⟨by rw [HF.out]; rfl, Below.refl _ _⟩

end Go.Proofs.Ytbdjkbaieokbhaa
