/- The walk of the law GhostAsks. -/
import Derived.Test.YtbdjkbaieokbhaaQa
import Derived.Test.YtbdjkbaieokbhaaQb
import Derived.Test.YtbdjkbaieokbhaaWm
import Derived.Test.YtbdjkbaieokbhaaOrg
import Derived.Deep.DeepCutAuto
import Derived.Deep.CutBlock
namespace Go.Proofs.Ytbdjkbaieokbhaa
open Go.RowKit Go.Tn Go.Tn.Ghost Go.Sort

theorem agg31T (x y : Int) : AggT Try.prog 31 (#[.int .i64 x, .int .i64 y] : Array Value).size := ⟨⟨_, Try.underlying31, rfl⟩, by kernel_rfl⟩
theorem Lies.below {w w' : World} {b o B : Nat} {cs : Array Value} (h : Lies w b o cs) (hb : Below B w w') (hB : b < B) : Lies w' b o cs := fun j hj => (hb.cell (p := ⟨b, o + j, none⟩) hB).trans (h j hj)

set_option maxHeartbeats 16000000 in
theorem ghostAsks_walk (w : World) (ao : Option Addr) (n cap : Nat) (c fi fg : Int) (E : Nat → Evt) (hE : 0 < n → ∃ b off, ao = some ⟨b, off, none⟩ ∧ b < w.heap.size ∧ EvIn w b off n E) (hnc : n ≤ cap) (hcm : cap ≤ maxLen) :
    Calls Try.prog 5 #[.slice ao n cap, .int .i64 c, .agg #[.int .i64 fi, .int .i64 fg]] w fun e w' => e = .returned (.bool true) ∧ Below w.heap.size w w' := by
  unfold maxLen at hcm
  obtain ⟨m, hm, hmn, hsl, h1, h2⟩ := cut60 (cap := cap) hE
  clear hE
  go_enter Try.func5, Try.ntmps5
  go_upto_if 11 with (fail)
  go_cut [0] (fun s wx => s = .slice ao m cap ∧ wx = w.alloc (.cells #[.int .i64 fi, .int .i64 fg] 31))
  case first =>
    by_cases h : 60 < n
    · obtain ⟨hm60, b, off, rfl⟩ := h1 h
      have hi : (60 : Int) < (n : Int) := by omega
      have HM := Lib.hid hm60
      clear h1 h2 hm60 h
      go_wp2
      go_meet
      case rel => exact ⟨by rw [HM.out], rfl⟩
    · have hi : (n : Int) ≤ 60 := by omega
      obtain rfl := h2 (by omega)
      clear h1 h2 h
      go_wp2
      go_meet
      case rel => exact ⟨rfl, rfl⟩
  case rest =>
    clear h1 h2
    obtain ⟨rfl, rfl⟩ := hcut
    have hW : Below w.heap.size w (w.alloc (.cells #[.int .i64 fi, .int .i64 fg] 31)) := (Below.refl _ _).alloc (Nat.le_refl _) _
    have hbx : Lies (w.alloc (.cells #[.int .i64 fi, .int .i64 fg] 31)) w.heap.size 0 #[.int .i64 fi, .int .i64 fg] := lies_of heap_alloc_at
    have hlt1 : w.heap.size < (w.alloc (.cells #[.int .i64 fi, .int .i64 fg] 31)).heap.size := by simp
    have hsl1 := hsl.below hW
    generalize w.alloc (.cells #[.int .i64 fi, .int .i64 fg] 31) = w1 at *
    clear hsl
    go_wp2
    go_loopw [7, 8] (fun ov kv wr => ∃ k : Nat, k ≤ m ∧ kv = .int .i64 k ∧ Own1 wr 3 ov ((waits c fi fg E m k).map iv) ∧ (∀ r, ov.ownBlock = some r → w1.heap.size ≤ r) ∧ Below w1.heap.size w1 wr) (fun _ kv _ => m - (intOf kv).toNat)
    case atStart => exact ⟨0, Nat.zero_le _, rfl, ⟨rfl, .inl ⟨rfl, rfl⟩⟩, (fun r hr => by cases hr), Below.refl _ _⟩
    case round =>
      obtain ⟨k, hk, rfl, hown, hlo, hbr⟩ := hrel
      by_cases hlt : k < m
      · obtain ⟨ao', cap', hv, hev⟩ := hsl1
        obtain ⟨b, off, rfl, hbw, hin⟩ := hev (by omega)
        have hlt' : (k : Int) < (m : Int) := by omega
        have hinr := hin.below hbr hbw
        have hbw' : b < wr.drew.heap.size := by have := hbr.size; show b < wr.heap.size; omega
        have hinr' : EvIn wr.drew b off m E := hinr
        have hsucc := waits_succ c fi fg E m k
        have hwl := waits_len c fi fg E m k
        have hbxr := Lies.below hbx hbr hlt1
        have hec : ∀ w', Below wr.heap.size wr w' → (Lies w' w.heap.size 0 #[.int .i64 fi, .int .i64 fg] ∧ w'.cell? ⟨b, off + k * 17 + 1, none⟩ = some (.int .i64 (E k).c) ∧ Lies w' b (off + k * 17 + 3) #[.int .i64 (E k).i, .int .i64 (E k).g]) := fun w' hb' => by
          have hl := (hinr.below hb' (by have := hbr.size; omega)) k hlt
          refine ⟨Lies.below hbxr hb' (by have := hbr.size; omega), ?_, fun j hj => ?_⟩
          · exact hl 1 (by rw [evArr_size]; omega)
          · match j, hj with
            | 0, _ => exact hl 3 (by rw [evArr_size]; omega)
            | 1, _ => exact hl 4 (by rw [evArr_size]; omega)
        have HEC := Lib.hid hec
        clear hec hin hinr hev
        go_upto_region 7 with (fail)
        refine wp_region_g (fun w' => Lies w' w.heap.size 0 #[.int .i64 fi, .int .i64 fg] ∧ w'.cell? ⟨b, off + k * 17 + 1, none⟩ = some (.int .i64 (E k).c) ∧ Lies w' b (off + k * 17 + 3) #[.int .i64 (E k).i, .int .i64 (E k).g]) [(0, 1), (1, 1), (2, 2), (3, 1), (4, 1), (5, 1), (6, 1), (7, 1), (8, 1), (9, 0), (10, 1), (11, 1), (12, 1), (13, 1), (14, 1), (15, 1), (16, 1), (17, 1), (18, 1), (19, 0), (20, 0), (21, 1), (22, 1)] (by kernel_rfl) (by kernel_rfl) (by intro d v c a w h; cases d <;> exact h) ?_
        iterate 2 (refine g_take rfl rfl (fun K hK => ?_); go_simp; refine hK _ ?_; clear hK K)
        refine g_show' rfl rfl (fun K hK => ?_)
        go_simp
        refine (fate_any wr.drew b off m cap k E hinr' hlt hm hbw').mono ?_
        rintro e w3 ⟨rfl, hb3'⟩
        have hb3 : Below wr.heap.size wr w3 := (Below.refl wr.heap.size wr).drew.trans hb3'
        have hS3 := HEC.out w3 hb3
        refine hK _ _ hS3 ?_
        clear hK K hb3'
        have hown3 : Own1 w3 3 u7 ((waits c fi fg E m k).map iv) := hown.kept fun r hr => hb3.block r (Own1.lt hown hr)
        have hbr3 : Below w1.heap.size w1 w3 := hbr.trans (hb3.mono hbr.size)
        clear hown hbr HEC hinr' hbxr hbw' hb3
        generalize hfe : fate E m k = fe at *
        by_cases hf1 : fe = 1
        · have t0 : (fe == 1) = true := by simpa using hf1
          by_cases h1 : (E k).c = c
          · have t1 : ((E k).c == c) = true := by simpa using h1
            by_cases hg : (E k).i = fi ∧ (E k).g = fg
            · have t2 : ((E k).i == fi) = true := by simpa using hg.1
              have t3 : ((E k).g == fg) = true := by simpa using hg.2
              rw [if_pos ⟨hf1, h1, hg.1, hg.2⟩] at hsucc
              have HS := Lib.hid hsucc
              clear hsucc hf1 h1 hg hfe
              iterate 6 (refine g_take rfl rfl (fun K hK => ?_); go_simp; refine hK _ ?_; clear hK K)
              refine g_read rfl rfl hS3 (fun w' h => exec_load1 scalar3 rfl h.2.1) ?_
              iterate 9 (refine g_take rfl rfl (fun K hK => ?_); go_simp; refine hK _ ?_; clear hK K)
              refine g_read rfl rfl hS3 (fun w' h => exec_loadA (agg31T _ _) rfl h.2.2) ?_
              refine g_read rfl rfl hS3 (fun w' h => exec_loadA (agg31T _ _) rfl h.1) ?_
              iterate 2 (refine g_take rfl rfl (fun K hK => ?_); go_simp; refine hK _ ?_; clear hK K)
              refine g_nil ?_
              have hown4 : Own1 (w3.alloc (.cells #[.int .i64 k] 3)) 3 u7 ((waits c fi fg E m k).map iv) := hown3.kept fun r hr => heap_alloc_lt (Own1.lt hown3 hr)
              have hu4 : Own1 (w3.alloc (.cells #[.int .i64 k] 3)) 3 (.slice (some ⟨w3.heap.size, 0, none⟩) 1 1) ([k].map iv) := Own1.lit (by unfold maxLen; simp)
              have hl4 : (waits c fi fg E m k).length + [k].length ≤ 1000 := by simp; omega
              have hbr4 := hbr3.alloc hbr3.size (.cells #[.int .i64 k] 3)
              go_wp2_with (first
                | ((with_reducible refine wpList_appendL hown4 hu4 hl4 ?_ ?_ ?_); rfl; rfl; (intro v5 w5 ho5 hg5 hl5); go_frame)
                | fail)
              refine ⟨⟨k + 1, by omega, by go_num, by rw [HS.out]; exact ho5, fun r hr => ?_, hbr4.grown hg5 hbr4.size (fun k hk => hlo k hk)⟩, by simp [intOf]; omega⟩
              rcases hl5 with h | h
              · exact hlo r (h ▸ hr)
              · rw [h] at hr
                cases hr
                exact hbr4.size
            · rw [if_neg (fun h => hg ⟨h.2.2.1, h.2.2.2⟩), List.append_nil] at hsucc
              have HS := Lib.hid hsucc
              have h23 : ((E k).i == fi) = false ∨ ((E k).i == fi) = true ∧ ((E k).g == fg) = false := by
                by_cases h2 : (E k).i = fi
                · exact .inr ⟨by simpa using h2, by simpa using fun h3 => hg ⟨h2, h3⟩⟩
                · exact .inl (by simpa using h2)
              clear hsucc hf1 h1 hg hfe
              rcases h23 with t2 | ⟨t2, t3⟩
              all_goals
                iterate 6 (refine g_take rfl rfl (fun K hK => ?_); go_simp; refine hK _ ?_; clear hK K)
                refine g_read rfl rfl hS3 (fun w' h => exec_load1 scalar3 rfl h.2.1) ?_
                iterate 9 (refine g_take rfl rfl (fun K hK => ?_); go_simp; refine hK _ ?_; clear hK K)
                refine g_read rfl rfl hS3 (fun w' h => exec_loadA (agg31T _ _) rfl h.2.2) ?_
                refine g_read rfl rfl hS3 (fun w' h => exec_loadA (agg31T _ _) rfl h.1) ?_
                iterate 2 (refine g_take rfl rfl (fun K hK => ?_); go_simp; refine hK _ ?_; clear hK K)
                refine g_nil ?_
                go_wp2
                go_roundw
                case rel => exact ⟨k + 1, by omega, by go_num, by rw [HS.out]; exact hown3, hlo, hbr3⟩
                case measure => simp [intOf]; omega
          · have t1 : ((E k).c == c) = false := by simpa using h1
            rw [if_neg (fun h => h1 h.2.1), List.append_nil] at hsucc
            have HS := Lib.hid hsucc
            clear hsucc hf1 h1 hfe
            iterate 6 (refine g_take rfl rfl (fun K hK => ?_); go_simp; refine hK _ ?_; clear hK K)
            refine g_read rfl rfl hS3 (fun w' h => exec_load1 scalar3 rfl h.2.1) ?_
            iterate 4 (refine g_take rfl rfl (fun K hK => ?_); go_simp; refine hK _ ?_; clear hK K)
            iterate 8 (refine g_off rfl rfl (fun h => by cases h) ?_)
            iterate 1 (refine g_take rfl rfl (fun K hK => ?_); go_simp; refine hK _ ?_; clear hK K)
            refine g_nil ?_
            go_wp2
            go_roundw
            case rel => exact ⟨k + 1, by omega, by go_num, by rw [HS.out]; exact hown3, hlo, hbr3⟩
            case measure => simp [intOf]; omega
        · have t0 : (fe == 1) = false := by simpa using hf1
          rw [if_neg (fun h => hf1 h.1), List.append_nil] at hsucc
          have HS := Lib.hid hsucc
          clear hsucc hf1 hfe
          iterate 2 (refine g_take rfl rfl (fun K hK => ?_); go_simp; refine hK _ ?_; clear hK K)
          iterate 7 (refine g_off rfl rfl (fun h => by cases h) ?_)
          iterate 2 (refine g_take rfl rfl (fun K hK => ?_); go_simp; refine hK _ ?_; clear hK K)
          iterate 8 (refine g_off rfl rfl (fun h => by cases h) ?_)
          iterate 1 (refine g_take rfl rfl (fun K hK => ?_); go_simp; refine hK _ ?_; clear hK K)
          refine g_nil ?_
          go_wp2
          go_roundw
          case rel => exact ⟨k + 1, by omega, by go_num, by rw [HS.out]; exact hown3, hlo, hbr3⟩
          case measure => simp [intOf]; omega
      · obtain rfl : k = m := by omega
        have hslr : EvSl wr (.slice ao k cap) k E := hsl1.below hbr
        have hbxr := Lies.below hbx hbr hlt1
        have hltr : w.heap.size < wr.heap.size := by have := hbr.size; omega
        have keep : ∀ w', Below wr.heap.size wr w' → EvSl w' (.slice ao k cap) k E ∧ Lies w' w.heap.size 0 #[.int .i64 fi, .int .i64 fg] := fun w' hb' => ⟨hslr.below hb', Lies.below hbxr hb' hltr⟩
        have KEEP := Lib.hid keep
        clear keep hsl1 hbx
        go_upto_region 9 with (fail)
        refine wp_region_g (fun w' => Lies w' w.heap.size 0 #[.int .i64 fi, .int .i64 fg]) [(0, 1), (1, 1), (2, 0), (4, 1), (3, 2), (5, 2), (6, 1), (7, 1), (8, 1), (9, 0), (11, 1), (12, 1), (13, 0), (10, 2), (14, 2), (15, 1), (16, 1), (17, 1), (18, 2), (19, 1), (20, 1)] (by kernel_rfl) (by kernel_rfl) (by intro d v c a w h; cases d <;> exact h) ?_
        iterate 2 (refine g_take rfl rfl (fun K hK => ?_); go_simp; refine hK _ ?_; clear hK K)
        refine g_read rfl rfl hbxr (fun w' h => exec_loadA (agg31T _ _) rfl h) ?_
        iterate 1 (refine g_take rfl rfl (fun K hK => ?_); go_simp; refine hK _ ?_; clear hK K)
        refine g_show' rfl rfl (fun K hK => ?_)
        go_simp
        refine (waiting_any wr.drew _ k E hslr hm c fi fg).mono ?_
        rintro e w3 ⟨⟨v3, rfl, hv3⟩, hb3'⟩
        have hb3 : Below wr.heap.size wr w3 := (Below.refl wr.heap.size wr).drew.trans hb3'
        have hown3 : Own1 w3 3 u7 ((waits c fi fg E k k).map iv) := hown.kept fun r hr => hb3.block r (Own1.lt hown hr)
        rw [map_iv] at hown3
        have hv4 := Own1.intSl hown3
        refine hK _ _ (KEEP.out _ hb3).2 ?_
        clear hK K hown3 hown
        refine g_show' rfl rfl (fun K hK => ?_)
        go_simp
        refine (sameInts_any w3 _ _ _ _ hv3 hv4).mono ?_
        rintro e w4 ⟨he, nd, rfl⟩
        rw [decide_eq_true rfl] at he
        subst he
        have hb4 := below_drewN hb3 nd
        refine hK _ _ (KEEP.out _ hb4).2 ?_
        clear hK K hv3 hv4 hb3 hb3'
        generalize w3.drewN nd = w4 at *
        iterate 3 (refine g_take rfl rfl (fun K hK => ?_); go_simp; refine hK _ ?_; clear hK K)
        refine g_read rfl rfl (KEEP.out _ hb4).2 (fun w' h => exec_loadA (agg31T _ _) rfl h) ?_
        iterate 2 (refine g_take rfl rfl (fun K hK => ?_); go_simp; refine hK _ ?_; clear hK K)
        refine g_read rfl rfl (KEEP.out _ hb4).2 (fun w' h => exec_loadA (agg31T _ _) rfl h) ?_
        obtain ⟨tv, htv⟩ : ∃ tv, told c fi fg E k = tv := ⟨_, rfl⟩
        refine g_show' rfl rfl (fun K hK => ?_)
        go_simp
        refine (told_any w4 _ k E (KEEP.out _ hb4).1 hm c fi fg).mono ?_
        rintro e w5 ⟨he, hb5'⟩
        rw [htv] at he
        subst he
        have hb5 : Below wr.heap.size wr w5 := hb4.trans (hb5'.mono hb4.size)
        refine hK _ _ (KEEP.out _ hb5).2 ?_
        clear hK K hb5' hb4
        refine g_show' rfl rfl (fun K hK => ?_)
        go_simp
        refine (rTold_any w5 _ k E (KEEP.out _ hb5).1 hm c fi fg).mono ?_
        rintro e w6 ⟨he, hb6'⟩
        rw [htv] at he
        subst he
        have hb6 : Below wr.heap.size wr w6 := hb5.trans (hb6'.mono hb5.size)
        refine hK _ _ (KEEP.out _ hb6).2 ?_
        clear hK K hb6' hb5 htv
        iterate 3 (refine g_take rfl rfl (fun K hK => ?_); go_simp; refine hK _ ?_; clear hK K)
        refine g_show' rfl rfl (fun K hK => ?_)
        go_simp
        refine (lives_any w6).mono ?_
        rintro e w7 ⟨rfl, hb7'⟩
        have hb7 : Below wr.heap.size wr w7 := hb6.trans (hb7'.mono hb6.size)
        refine hK _ _ (KEEP.out _ hb7).2 ?_
        clear hK K hb7' hb6
        iterate 2 (refine g_take rfl rfl (fun K hK => ?_); go_simp; refine hK _ ?_; clear hK K)
        refine g_nil ?_
        go_wp2
        go_ret
        exact ⟨rfl, hW.trans ((hbr.trans (hb7.mono hbr.size)).mono (Nat.le_of_lt hlt1))⟩
end Go.Proofs.Ytbdjkbaieokbhaa
