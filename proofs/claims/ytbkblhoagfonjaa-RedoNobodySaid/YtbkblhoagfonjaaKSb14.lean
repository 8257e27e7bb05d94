/- Need; the newest epoch; walked. -/
import Derived.Test.YtbkblhoagfonjaaKSb13
/- A transaction is taken, walked. -/
namespace Go.Proofs.Ytbkblhoagfonjaa
open Go.RowKit Go.Tn Go.Tn.Bt Go.Tn.Lp Go.Tn.Dk
/-- Puts in a slice, none of their blocks among F. -/
def PtsA (w : World) (F : Nat → Prop) (v : Value) (ps : List Pt) : Prop := ∃ xs : List (Pt × Sv), xs.map (·.1) = ps ∧ LSl enPt 2 w v xs ∧ (∀ r, v.ownBlock = some r → ¬ F r) ∧ ∀ x ∈ xs, LSl en8 1 w (sv x.2) x.1.2 ∧ ∀ r, (sv x.2).ownBlock = some r → ¬ F r
theorem PtsA.rd {w : World} {F : Nat → Prop} {v : Value} {ps : List Pt} (h : PtsA w F v ps) : PtsI w v ps := by
  obtain ⟨xs, h1, h2, _, h3⟩ := h
  exact ⟨xs, h1, h2, fun x hx => (h3 x hx).1⟩
theorem PtsA.mono {w : World} {F G : Nat → Prop} {v : Value} {ps : List Pt} (h : PtsA w F v ps) (hFG : ∀ b, G b → F b) : PtsA w G v ps := by
  obtain ⟨xs, h1, h2, h4, h3⟩ := h
  exact ⟨xs, h1, h2, fun r hr e => h4 r hr (hFG r e), fun x hx => ⟨(h3 x hx).1, fun r hr e => (h3 x hx).2 r hr (hFG r e)⟩⟩
theorem PtsA.below {w w' : World} {F : Nat → Prop} {v : Value} {ps : List Pt} (h : PtsA w F v ps) (hb : Below w.heap.size w w') : PtsA w' F v ps := by
  obtain ⟨xs, h1, h2, h4, h3⟩ := h
  exact ⟨xs, h1, h2.below hb, h4, fun x hx => ⟨(h3 x hx).1.below hb, (h3 x hx).2⟩⟩
theorem PtsA.mod {w w' : World} {F G : Nat → Prop} {v : Value} {ps : List Pt} (h : PtsA w F v ps) (hm : Mod G w w') (hG : ∀ b, G b → F b) : PtsA w' F v ps := by
  obtain ⟨xs, h1, h2, h4, h3⟩ := h
  exact ⟨xs, h1, h2.mod hm (fun r hr e => h4 r hr (hG r e)), h4, fun x hx => ⟨(h3 x hx).1.mod hm fun r hr e => (h3 x hx).2 r hr (hG r e), (h3 x hx).2⟩⟩
theorem takeH_snoc (H : Nat → Option (List Nat)) (ps : List Pt) (p : Pt) : takeH H (ps ++ [p]) = fun k : Nat => if (k : Int) = p.1 then some p.2 else takeH H ps k := by
  unfold takeH
  rw [List.foldl_append]
  rfl
theorem zeroB : ∀ w, (zeroValue 33).run Try.prog w = .ok (.slice none 0 0) w := fun w => by simp [go_sem]
set_option maxRecDepth 20000 in
set_option maxHeartbeats 4000000 in
theorem take_any {w : World} {F : Nat → Prop} {g p : Nat} {l : Lg} (h : LAt w F g p l) (v : Value) (ps : List Pt) (hp : PtsA w F v ps) (h0 : ∀ q ∈ ps, 0 ≤ q.1) (hl : ∀ q ∈ ps, q.2.length ≤ 50000) (hn : ps.length ≤ 100000) :
    Calls Try.prog 42 #[.pointer (some ⟨g, 0, none⟩), v] w fun e w' => e = .returned (.tuple #[]) ∧ ∃ F', LAt w' F' g p { l with H := takeH l.H ps } ∧ Mod F w w' ∧ ∀ b, F' b → F b ∨ w.heap.size ≤ b := by
  obtain ⟨xs, hxs, hL, hvF, hD⟩ := hp
  have hxl : xs.length = ps.length := by rw [← hxs]; simp
  obtain ⟨ao, cap, rfl, h1, h2, h3⟩ := hL
  rw [hxl] at h1 h3 ⊢
  unfold maxLen at h2
  have HXS := Lib.hid hxs
  have HD := Lib.hid hD
  have HVF := Lib.hid hvF
  have HXL := Lib.hid hxl
  have HL := Lib.hid h
  have HP0 := Lib.hid h0
  have HPL := Lib.hid hl
  clear hxs hD hxl hvF h h0 hl
  have h63 : (ps.length : Int) ≤ 100000 := by omega
  go_enter Try.func42, Try.ntmps42
  go_wp2_with fail
  go_loopw [8] (fun iv wi => ∃ k : Nat, k ≤ ps.length ∧ iv = .int .i64 k ∧ Mod F w wi ∧ ∃ Fi, LAt wi Fi g p { l with H := takeH l.H (ps.take k) } ∧ ∀ b, Fi b → F b ∨ w.heap.size ≤ b) (fun iv _ => ps.length - (intOf iv).toNat)
  case atStart => exact ⟨0, Nat.zero_le _, rfl, Mod.refl _ _, F, HL.out, fun b hb => .inl hb⟩
  case round =>
    obtain ⟨k, hk, rfl, hm, Fi, hLi, hFi⟩ := hrel
    by_cases hkl : k < ps.length
    · have hkl' : (k : Int) < (ps.length : Int) := by omega
      obtain ⟨x, hx⟩ : ∃ x, xs[k]? = some x := ⟨_, List.getElem?_eq_getElem (by rw [HXL.out]; exact hkl)⟩
      obtain ⟨b, off, rfl, hbl, hcells⟩ := h3 (by omega)
      have hlies := lies_mod (hcells k x hx) hm (HVF.out b rfl)
      have hpx : ps[k]? = some x.1 := by rw [← HXS.out, List.getElem?_map, hx]; rfl
      have hdx := HD.out x (List.mem_of_getElem? hx)
      have hat0 := HP0.out x.1 (List.mem_of_getElem? hpx)
      have hdl := HPL.out x.1 (List.mem_of_getElem? hpx)
      have hsn : takeH l.H (ps.take (k + 1)) = fun j : Nat => if (j : Int) = x.1.1 then some x.1.2 else takeH l.H (ps.take k) j := by rw [take_snoc hpx, takeH_snoc]
      have hds := hdx.1.mod hm hdx.2
      obtain ⟨⟨at_, dat⟩, ⟨a1, n1, c1⟩⟩ := x
      simp only at hat0 hdl hsn hds
      obtain ⟨at_, rfl⟩ := Int.eq_ofNat_of_zero_le hat0
      have HLS : Hid (Lies wr b (off + k * 2) #[.int .i64 (at_ : Nat), .slice a1 n1 c1]) := Lib.hid hlies
      have hb1 : Below wr.heap.size wr (wr.alloc (.cells #[.int .i64 (at_ : Nat), .slice a1 n1 c1] 60)) := (Below.refl _ _).alloc (Nat.le_refl _) _
      have hL1 := (hLi.below hb1).below ((Below.refl _ _).drew)
      have hcl := clone_any (wr.alloc (.cells #[.int .i64 (at_ : Nat), .slice a1 n1 c1] 60)).drew (.slice a1 n1 c1) dat ((LSl.below hds hb1).below (Below.refl _ _).drew) hdl
      obtain ⟨m, L, clk, hlb, hH, hmg, hLg⟩ := hL1.ex
      have hS : (wr.alloc (.cells #[.int .i64 (at_ : Nat), .slice a1 n1 c1] 60)).drew.cell? ⟨g, 6, none⟩ = some (.map (some m)) ∧ Lies (wr.alloc (.cells #[.int .i64 (at_ : Nat), .slice a1 n1 c1] 60)).drew wr.heap.size 0 #[.int .i64 (at_ : Nat), .slice a1 n1 c1] := ⟨cell_of (o := 6) hlb rfl, lies_of heap_alloc_at⟩
      have hm1 : Mod F w (wr.alloc (.cells #[.int .i64 (at_ : Nat), .slice a1 n1 c1] 60)).drew := (hm.alloc _).drew
      have hFlt := hLi.lt
      have hwle : w.heap.size ≤ wr.heap.size := hm.size
      have HSN := Lib.hid hsn
      have HM1 := Lib.hid hm1
      have HL1 := Lib.hid hL1
      have HFI := Lib.hid hFi
      have HFLT := Lib.hid hFlt
      clear hx hcells hlies hpx hdx hds hsn hb1 hm hLi hFi hm1 hat0 hL1 hFlt
      go_upto_region 3 with (first
        | ((with_reducible refine wpList_loadA (aggPt _ _) HLS.out ?_ ?_); rfl; go_frame)
        | fail)
      refine wp_region_x (fun w' => w'.cell? ⟨g, 6, none⟩ = some (.map (some m)) ∧ Lies w' wr.heap.size 0 #[.int .i64 (at_ : Nat), .slice a1 n1 c1]) [(0, 1), (1, 1), (2, 1), (3, 0), (4, 1), (5, 0), (6, 1), (7, 0), (8, 2), (9, 3)] (by kernel_rfl) (by kernel_rfl) (by intro d v c a w h; cases d <;> exact h) ?_
      have hw1z : wr.heap.size < (wr.alloc (.cells #[.int .i64 (at_ : Nat), .slice a1 n1 c1] 60)).drew.heap.size := by show wr.heap.size < (wr.alloc _).heap.size; simp
      generalize (wr.alloc (.cells #[.int .i64 (at_ : Nat), .slice a1 n1 c1] 60)).drew = w1 at *
      iterate 3 (refine x_take rfl (fun K hK => ?_); go_simp; refine hK _ ?_; clear hK K)
      refine x_read rfl hS (fun w' h => exec_load1 ⟨⟨_, Try.underlying52, rfl⟩⟩ rfl h.1) ?_
      iterate 1 (refine x_take rfl (fun K hK => ?_); go_simp; refine hK _ ?_; clear hK K)
      refine x_read rfl hS (fun w' h => exec_load1 ⟨⟨_, Try.underlying3, rfl⟩⟩ rfl (h.2 0 (by simp))) ?_
      iterate 1 (refine x_take rfl (fun K hK => ?_); go_simp; refine hK _ ?_; clear hK K)
      refine x_read rfl hS (fun w' h => exec_load1 ⟨⟨_, Try.underlying33, rfl⟩⟩ rfl (h.2 1 (by simp))) ?_
      refine x_show' rfl (fun K hK => ?_)
      go_simp
      refine hcl.mono ?_
      rintro e w2 ⟨v2, rfl, hO2, hb2⟩
      obtain ⟨a2, n2, c2, rfl⟩ := hO2.shape
      have hgl : g < w1.heap.size := lt_of_block hlb
      have hS2 : w2.cell? ⟨g, 6, none⟩ = some (.map (some m)) ∧ Lies w2 wr.heap.size 0 #[.int .i64 (at_ : Nat), .slice a1 n1 c1] := ⟨(hb2.cell (p := ⟨g, 6, none⟩) hgl).trans hS.1, hS.2.below' hb2 hw1z⟩
      refine hK _ _ hS2 ?_
      clear hK K hcl hS
      have hml : m < w1.heap.size := lt_of_block hH.blk
      obtain ⟨w3, hr3, hh3, hwf3, hm3⟩ := exec_mapUpd (P := Try.prog) keyI Try.underlying52 ((hb2.block m hml).trans hH.blk) hH.wf ((at_ : Nat) : Int) (.slice a2 n2 c2)
      refine x_skip rfl (hr3 _ _ _ _ _ _ _ _ _ rfl rfl rfl) ?_
      refine x_nil ?_
      have hown : ∀ r, (Value.slice a2 n2 c2).ownBlock = some r → w1.heap.size ≤ r := hO2.lo
      have hfin : LAt w3 (fun b => Fi b ∨ (wr.heap.size ≤ b ∧ b < w3.heap.size)) g p { l with H := takeH l.H (ps.take (k + 1)) } := by
        refine ⟨⟨m, _, _, hm3.heap ((hb2.block g hgl).trans hlb) (fun e => hmg e.symm), ⟨hh3, hwf3, fun e he => ?_, fun j hj => ?_, .inl hH.fm⟩, hmg, fun e he => ?_⟩, .inl HL1.out.fg, ?_⟩
        · rcases mem_upd hH.wf he with ⟨he1, hne⟩ | ⟨he1, he2, -⟩
          · obtain ⟨j, hj1, b', hj2, hj3, hj4⟩ := hH.key e he1
            refine ⟨j, hj1, b', ?_, ?_, fun r hr => ⟨.inl (hj4 r hr).1, (hj4 r hr).2⟩⟩
            · simp only
              rw [HSN.out]
              simp only
              rw [if_neg (fun e' => hne (hj1.trans e'))]
              exact hj2
            · exact (hj3.below hb2).kept hm3.size fun r hr => hm3.block r (Nat.lt_of_lt_of_le (hj3.lt r hr) hb2.size) (hj4 r hr).2
          · refine ⟨at_, he1, dat, ?_, ?_, fun r hr => ?_⟩
            · simp only
              rw [HSN.out]
              simp
            · rw [he2]
              exact ((hO2.rd el8.len).mono (Nat.zero_le _)).kept hm3.size fun r hr => hm3.block r (hO2.lt hr) (fun e => by have := hown r hr; have e : r = m := e; omega)
            · rw [he2] at hr
              have h1 := hown r hr
              have h2 := hO2.lt hr
              have h3 := hm3.size
              exact ⟨.inr ⟨by omega, by omega⟩, by omega⟩
        · have hg := get_upd (j := (j : Int)) (k := ((at_ : Nat) : Int)) (v := .slice a2 n2 c2) hH.wf
          have hne : get (j : Int) (upd ((at_ : Nat) : Int) (.slice a2 n2 c2) L clk) ≠ none := by
            rw [hg]
            by_cases hja : (j : Int) = (at_ : Nat)
            · rw [if_pos hja]
              exact fun e => by cases e
            · rw [if_neg hja]
              simp only [HSN.out, hja, if_false] at hj
              obtain ⟨e, he, hej⟩ := hH.all j hj
              exact fun hn => get_none.1 hn e he hej
          cases hgo : get (j : Int) (upd ((at_ : Nat) : Int) (.slice a2 n2 c2) L clk) with
          | none => exact absurd hgo hne
          | some u =>
            obtain ⟨b', hb'⟩ := get_some hgo
            exact ⟨_, hb', rfl⟩
        · rcases mem_upd hH.wf he with ⟨he1, hne⟩ | ⟨he1, he2, -⟩
          · exact hLg e he1
          · rw [he2]
            intro e
            have := hown g e
            omega
        · rintro b (hb | hb)
          · have := HFLT.out b hb
            have := hb2.size
            have := hm3.size
            omega
          · exact hb.2
      have hmf : Mod F w w3 := HM1.out.trans (T := F) ((Mod.of_below hb2).trans (T := fun b => w1.heap.size ≤ b ∨ b = m) hm3 (fun x h => .inl h) fun x _ h => .inr h) (fun _ h => h) fun x hx hS => by
        rcases hS with hS | hS
        · exact absurd hx (Nat.not_lt.2 (Nat.le_trans HM1.out.size hS))
        · rw [hS] at hx ⊢
          exact (HFI.out m hH.fm).resolve_right (Nat.not_le.2 hx)
      have HFIN := Lib.hid hfin
      have HMF := Lib.hid hmf
      have HW := HM1.out.size
      have hwz : w.heap.size ≤ wr.heap.size + 1 := by omega
      clear hfin hmf hh3 hwf3 hm3 hr3 hO2 hb2 hH hlb hS2 hLg hown HW
      go_wp2
      go_roundw
      case rel => exact ⟨k + 1, by omega, by go_num, HMF.out, _, HFIN.out, fun b hb => by
        rcases hb with hb | hb
        · exact HFI.out b hb
        · exact .inr (Nat.le_trans hwle hb.1)⟩
      case measure => simp [intOf]; omega
    · obtain rfl : k = ps.length := by omega
      rw [List.take_length] at hLi
      have HM := Lib.hid hm
      have HLi := Lib.hid hLi
      have HFi := Lib.hid hFi
      clear hm hLi hFi
      go_wp2
      go_end0
      exact ⟨rfl, Fi, HLi.out, HM.out, HFi.out⟩
end Go.Proofs.Ytbkblhoagfonjaa

/- Sync, Read, walked. -/
namespace Go.Tn.Dk
/-- Behind Sync. -/
def Lg.sync (l : Lg) (d : Dsk) : Lg × Dsk := if l.err ≠ 0 then (l, d) else ({ l with err := d.dead }, d.flush)
def Lg.home (l : Lg) (d : Dsk) (i : Nat) : List Nat := match l.H i with
  | some b => b
  | none => d.get (2 + l.n + i)
end Go.Tn.Dk
namespace Go.Proofs.Ytbkblhoagfonjaa
open Go.RowKit Go.Tn Go.Tn.Bt Go.Tn.Lp Go.Tn.Dk
theorem sync_any {w : World} {F FD : Nat → Prop} {g p : Nat} {l : Lg} {d : Dsk} (h : LAt w F g p l) (hd : DAt w FD p d) (hF : ∀ b, F b → ¬ FD b) :
    Calls Try.prog 21 #[.pointer (some ⟨g, 0, none⟩)] w fun e w' => e = .returned (.int .i64 ((l.sync d).1.err : Nat)) ∧ LAt w' F g p (l.sync d).1 ∧ DAt w' FD p (l.sync d).2 ∧ Mod (fun b => F b ∨ FD b) w w' := by
  have hok := ok_any h
  have HL := Lib.hid h
  have HD := Lib.hid hd
  have HFF := Lib.hid hF
  obtain ⟨m, L, clk, hb, -⟩ := h.ex
  have c7 := cell_of (o := 7) hb rfl
  have c0 := cell_of (o := 0) hb rfl
  unfold Lg.sync
  by_cases he : l.err ≠ 0
  · have hne : (((l.err : Nat) : Int) != 0) = true := by rw [bne_iff_ne]; omega
    rw [if_pos he]
    clear h hd hF hb he
    go_enter Try.func21, Try.ntmps21
    go_wp2_with (first
      | (go_at_call 34; refine hok.mono ?_; rintro e w2 ⟨rfl, hw⟩; obtain rfl := hw.symm; clear hw)
      | fail)
    go_ret
    exact ⟨rfl, HL.out, HD.out, Mod.refl _ _⟩
  · have hne : (((l.err : Nat) : Int) != 0) = false := by rw [bne_eq_false_iff_eq]; omega
    rw [if_neg he]
    have hfl := dflush_any hd
    have HFL := Lib.hid h.fg
    clear h hd hF hb he
    go_enter Try.func21, Try.ntmps21
    go_wp2_with (first
      | (go_at_call 34; refine hok.mono ?_; rintro e w2 ⟨rfl, hw⟩; obtain rfl := hw.symm; clear hw)
      | fail)
    refine hfl.mono ?_
    rintro e w2 ⟨rfl, hD2, hm2⟩
    have hst := stays_any (HL.out.mod hm2 HFF.out) d.dead
    have HD2 := Lib.hid hD2
    have HM2 := Lib.hid hm2
    clear hD2 hm2 hfl hok
    go_wp2_with fail
    refine hst.mono ?_
    rintro e w3 ⟨rfl, hL3, hm3⟩
    have HL3 := Lib.hid hL3
    have HM3 := Lib.hid hm3
    clear hL3 hm3 hst
    go_wp2
    go_ret
    refine ⟨rfl, HL3.out, HD2.out.mod HM3.out fun b hb e => ?_, HM2.out.trans (T := fun b => F b ∨ FD b) HM3.out (fun _ h => .inr h) fun x _ h => .inl (by rw [h]; exact HFL.out)⟩
    exact HFF.out g HFL.out (by rw [← e]; exact hb)
set_option maxRecDepth 20000 in
theorem gread_any {w : World} {F FD : Nat → Prop} {g p : Nat} {l : Lg} {d : Dsk} (h : LAt w F g p l) (hd : DAt w FD p d) (hok' : l.ok d) (i : Nat) (hi : i < l.homes d) :
    Calls Try.prog 22 #[.pointer (some ⟨g, 0, none⟩), .int .i64 i] w fun e w' => ∃ v, e = .returned (.tuple #[v, .int .i64 0]) ∧ LRd en8 1 w.heap.size w' v (l.home d i) ∧ Below w.heap.size w w' := by
  have hok := ok_any h
  have hho := homes_any h hd hok'.nd
  have hhi := hd.ok.hi
  have hnd := hok'.nd
  have hh : l.homes d = d.L.length - 2 - l.n := rfl
  have hi63 : (i : Int) ≤ 4096 := by omega
  have hd1 : decide ((i : Int) < 0) = false := by simp
  have hd2 : decide (l.homes d ≤ i) = false := by simp; omega
  have HL := Lib.hid h
  have HD := Lib.hid hd
  have HH := Lib.hid hh
  have HOK := Lib.hid hok'
  have hR0 : l.home d i = match l.H i with | some b => b | none => d.get (2 + l.n + i) := rfl
  obtain ⟨R, hR⟩ : ∃ R, l.home d i = R := ⟨_, rfl⟩
  rw [hR] at hR0 ⊢
  have HR0 := Lib.hid hR0
  clear h hd hok' hh hR hR0
  go_enter Try.func22, Try.ntmps22
  go_upto_region 5 with (first
    | (go_at_call 34; refine hok.mono ?_; rintro e w2 ⟨rfl, hw⟩; obtain rfl := hw.symm; clear hw)
    | (go_at_call 23; refine hho.mono ?_; rintro e w2 ⟨rfl, hb2⟩; have HB2 := Lib.hid hb2; clear hb2)
    | fail)
  have hL2 := HL.out.below HB2.out
  obtain ⟨m, L, clk, hb, hH, hmg, hLg⟩ := hL2.ex
  have c6 := cell_of (o := 6) hb rfl
  have hmap := hH.blk
  cases hHi : l.H i with
  | some b =>
    have HR : Hid (R = b) := Lib.hid (by rw [HR0.out, hHi])
    obtain ⟨e0, he0, he1⟩ := hH.all i (by rw [hHi]; simp)
    obtain ⟨k, hk1, b', hk2, hk3, hk4⟩ := hH.key e0 he0
    have hki : k = i := by omega
    rw [hki, hHi] at hk2
    rw [← Option.some.inj hk2] at hk3
    clear hk1 hk2 hk4 hki
    have hget := get_of_mem hH.wf he0
    rw [he1] at hget
    obtain ⟨ao, cap, hav, hrest⟩ := hk3.sl
    have hsl := hk3.sl
    rw [hav] at hget hsl
    have hgd : getD ((i : Nat) : Int) L (.slice none 0 0) = .slice ao b.length cap := by unfold getD; rw [hget]; rfl
    have hsome : (get ((i : Nat) : Int) L).isSome = true := by rw [hget]; rfl
    have hbl : b.length = 128 := by exact (HOK.out.H i b hHi).2.1
    have hcl := clone_any w2 (.slice ao b.length cap) b hsl (by omega)
    have HMAP := Lib.hid hmap
    clear hbl hrest hsl hav hk3 hH hLg hb hmap hget hHi
    go_wp2_with (first
      | ((with_reducible refine wpList_exec rfl (exec_lookup_ok keyI Try.underlying52 zeroB HMAP.out ?_ ((i : Nat) : Int) ?_) ?_); rfl; rfl; go_frame)
      | (go_at_call 47; refine hcl.mono ?_; rintro e w3 ⟨v3, rfl, hO3, hb3⟩; obtain ⟨a3, n3, c3, rfl⟩ := hO3.shape; have HO3 := Lib.hid hO3; have HB3 := Lib.hid hb3; clear hO3 hb3)
      | fail)
    go_ret2
    rw [HR.out]
    exact ⟨.slice a3 n3 c3, rfl, (HO3.out.rd el8.len).mono HB2.out.size, HB2.out.trans (HB3.out.mono HB2.out.size)⟩
  | none =>
    have HR : Hid (R = d.get (2 + l.n + i)) := Lib.hid (by rw [HR0.out, hHi])
    have hget : get ((i : Nat) : Int) L = none := get_none.2 fun e he e1 => by
      obtain ⟨k, hk1, b', hk2, -⟩ := hH.key e he
      have hki : k = i := by omega
      rw [hki, hHi] at hk2
      cases hk2
    have hgd : getD ((i : Nat) : Int) L (.slice none 0 0) = .slice none 0 0 := by unfold getD; rw [hget]; rfl
    have hsome : (get ((i : Nat) : Int) L).isSome = false := by rw [hget]; rfl
    have hrd := dread_any ((HD.out.below HB2.out).drew) (2 + l.n + i) (by have := HH.out; omega)
    have hS : w2.drew.cell? ⟨g, 0, none⟩ = some (.pointer (some ⟨p, 0, none⟩)) ∧ w2.drew.cell? ⟨g, 1, none⟩ = some (.int .i64 (l.n : Nat)) := ⟨cell_of (o := 0) hb rfl, cell_of (o := 1) hb rfl⟩
    have hu1 : IntKind.i64.wrap (2 + ((l.n : Nat) : Int)) = 2 + ((l.n : Nat) : Int) := IntWalk.i64_in _ (by omega)
    have hu2 : IntKind.i64.wrap (2 + ((l.n : Nat) : Int) + (i : Nat)) = ((2 + l.n + i : Nat) : Int) := by rw [IntWalk.i64_in _ (by omega)]; omega
    have HMAP := Lib.hid hmap
    clear hH hLg hmap hget hb
    go_upto_region 8 with (first
      | ((with_reducible refine wpList_exec rfl (exec_lookup_ok keyI Try.underlying52 zeroB HMAP.out ?_ ((i : Nat) : Int) ?_) ?_); rfl; rfl; go_frame)
      | fail)
    refine wp_region_x (fun w' => w'.cell? ⟨g, 0, none⟩ = some (.pointer (some ⟨p, 0, none⟩)) ∧ w'.cell? ⟨g, 1, none⟩ = some (.int .i64 (l.n : Nat))) [(0, 1), (1, 1), (2, 1), (3, 0), (4, 1), (5, 1), (6, 1), (7, 0), (8, 1), (9, 1), (10, 1), (11, 2), (12, 1), (13, 1), (14, 1), (15, 1)] (by kernel_rfl) (by kernel_rfl) (by intro d v c a w h; cases d <;> exact h) ?_
    iterate 3 (refine x_take rfl (fun K hK => ?_); go_simp; refine hK _ ?_; clear hK K)
    refine x_read rfl hS (fun w' h => exec_load1 ⟨⟨_, Try.underlying25, rfl⟩⟩ rfl h.1) ?_
    iterate 3 (refine x_take rfl (fun K hK => ?_); go_simp; refine hK _ ?_; clear hK K)
    refine x_read rfl hS (fun w' h => exec_load1 ⟨⟨_, Try.underlying3, rfl⟩⟩ rfl h.2) ?_
    iterate 3 (refine x_take rfl (fun K hK => ?_); go_simp; refine hK _ ?_; clear hK K)
    refine x_show' rfl (fun K hK => ?_)
    go_simp
    refine hrd.mono ?_
    rintro e w3 ⟨v3, rfl, hv3, hb3⟩
    obtain ⟨a3, c3, rfl, -⟩ := hv3.sl
    have hgl : g < w2.drew.heap.size := World.block_lt_of_cell? _ _ hS.1
    refine hK _ _ ⟨(hb3.cell (p := ⟨g, 0, none⟩) hgl).trans hS.1, (hb3.cell (p := ⟨g, 1, none⟩) hgl).trans hS.2⟩ ?_
    clear hK K hu1 hu2 hS hrd
    iterate 4 (refine x_take rfl (fun K hK => ?_); go_simp; refine hK _ ?_; clear hK K)
    refine x_nil ?_
    have HV3 := Lib.hid hv3
    have HB3 := Lib.hid hb3
    clear hv3 hb3
    go_wp2
    go_ret2
    rw [HR.out]
    exact ⟨.slice a3 (d.get (2 + l.n + i)).length c3, rfl, HV3.out.mono HB2.out.size, HB2.out.trans ((Below.refl _ _).drew.trans (HB3.out.mono HB2.out.size))⟩
end Go.Proofs.Ytbkblhoagfonjaa

/- A transaction's record, walked. -/
namespace Go.Tn.Dk
open Go.Tn.Bt
theorem dat_len (l : List Nat) : (l.flatMap fun c => bitsN c 8).length = 8 * l.length := by
  induction l with
  | nil => rfl
  | cons x l ih => simp [bitsN_len, ih]; omega
theorem putBits_len (p : Pt) : (putBits p).length = 12 + 8 * p.2.length := by simp only [putBits, List.length_append, bitsN_len, dat_len]
theorem puts_len : ∀ (ps : List Pt), (∀ p ∈ ps, p.2.length = 128) → (ps.flatMap putBits).length = 1036 * ps.length
  | [], _ => rfl
  | p :: ps, h => by
    rw [List.flatMap_cons, List.length_append, putBits_len, h p List.mem_cons_self, puts_len ps fun q hq => h q (List.mem_cons_of_mem _ hq), List.length_cons]
    omega
theorem recB_len {ps : List Pt} (h : ∀ p ∈ ps, p.2.length = 128) : (recB ps).length = (8 + 1036 * ps.length + 7) / 8 := by
  simp only [recB, pack_len, List.length_append, bitsN_len, puts_len ps h]
end Go.Tn.Dk
namespace Go.Proofs.Ytbkblhoagfonjaa
open Go.RowKit Go.Tn Go.Tn.Bt Go.Tn.Lp Go.Tn.Dk
theorem WrAt.below {w w' : World} {a : Nat} {v : Value} {L : List Bool} (h : WrAt w a v L) (hb : Below w.heap.size w w') : WrAt w' a v L := ⟨(hb.block a (lt_of_block h.blk)).trans h.blk, h.bs.below hb⟩
theorem WrAt.own_lt {w : World} {a : Nat} {v : Value} {L : List Bool} (h : WrAt w a v L) {r : Nat} (hr : r = a ∨ v.ownBlock = some r) : r < w.heap.size := by
  rcases hr with rfl | hr
  · exact lt_of_block h.blk
  · exact h.bs.lt hr
/-- Puts whose numbers fit a record. -/
def fitP (p : Pt) : Prop := 0 ≤ p.1 ∧ p.1 < 4096 ∧ p.2.length = 128 ∧ ∀ x ∈ p.2, x < 256
set_option maxRecDepth 20000 in
set_option maxHeartbeats 4000000 in
theorem encode_any (w : World) (v : Value) (ps : List Pt) (h : PtsI w v ps) (hf : ∀ p ∈ ps, fitP p) (hn : ps.length ≤ 24) :
    Calls Try.prog 37 #[v] w fun e w' => ∃ v', e = .returned v' ∧ LOut en8 1 5 w.heap.size w' v' (recB ps) ∧ Below w.heap.size w w' := by
  obtain ⟨xs, hxs, hL, hD⟩ := h
  have hxl : xs.length = ps.length := by rw [← hxs]; simp
  obtain ⟨ao, cap, rfl, h1, h2, h3⟩ := hL
  rw [hxl] at h1 h3 ⊢
  unfold maxLen at h2
  have HXS := Lib.hid hxs
  have HD := Lib.hid hD
  have HXL := Lib.hid hxl
  have HFP := Lib.hid hf
  clear hxs hD hxl hf
  have h63 : (ps.length : Int) ≤ 24 := by omega
  have hnew := bNew_any w
  go_enter Try.func37, Try.ntmps37
  go_wp2_with fail
  refine hnew.mono ?_
  rintro e w2 ⟨rfl, hW2, hb2⟩
  have HB2 := Lib.hid hb2
  have hput := put_bits w2 w.heap.size _ _ hW2 ps.length 8 (by simp) (by decide) (by omega)
  clear hb2 hW2 hnew
  go_wp2_with fail
  refine hput.mono ?_
  rintro e w3 ⟨rfl, v3, hW3, hb3, -⟩
  have HW3 := Lib.hid hW3
  have HB3 := Lib.hid (HB2.out.trans hb3)
  clear hb3 hW3 hput
  go_wp2_with fail
  go_loopw [17] (fun iv wi => ∃ k : Nat, k ≤ ps.length ∧ iv = .int .i64 k ∧ Below w.heap.size w wi ∧ ∃ u, WrAt wi w.heap.size u (bitsN ps.length 8 ++ (ps.take k).flatMap putBits)) (fun iv _ => ps.length - (intOf iv).toNat)
  case atStart => exact ⟨0, Nat.zero_le _, rfl, HB3.out, v3, by simpa using HW3.out⟩
  case round =>
    obtain ⟨k, hk, rfl, hb, u, hW⟩ := hrel
    by_cases hkl : k < ps.length
    · have hkl' : (k : Int) < (ps.length : Int) := by omega
      obtain ⟨x, hx⟩ : ∃ x, xs[k]? = some x := ⟨_, List.getElem?_eq_getElem (by rw [HXL.out]; exact hkl)⟩
      obtain ⟨b, off, rfl, hbl, hcells⟩ := h3 (by omega)
      have hlies := (hcells k x hx).below' hb hbl
      have hpx : ps[k]? = some x.1 := by rw [← HXS.out, List.getElem?_map, hx]; rfl
      obtain ⟨da, dc, hdv, hd1, hd2, hd3⟩ := HD.out x (List.mem_of_getElem? hx)
      have hfit := HFP.out x.1 (List.mem_of_getElem? hpx)
      have hts := take_snoc hpx
      have hpl : ((ps.take k).flatMap putBits).length = 1036 * k := by
        rw [puts_len _ fun q hq => (HFP.out q (List.mem_of_mem_take hq)).2.2.1, List.length_take, Nat.min_eq_left hk]
      obtain ⟨⟨at_, dat⟩, ⟨a1, n1, c1⟩⟩ := x
      obtain ⟨rfl, rfl, rfl⟩ : a1 = da ∧ n1 = dat.length ∧ c1 = dc := by simpa [sv] using hdv
      obtain ⟨hf1, hf2, hf3, hf4⟩ := hfit
      simp only at hd1 hd2 hd3 hpx hf1 hf2 hf3 hf4
      obtain ⟨at_, rfl⟩ := Int.eq_ofNat_of_zero_le hf1
      unfold maxLen at hd2
      rw [hf3] at hd3
      have HLS : Hid (Lies wr b (off + k * 2) #[.int .i64 (at_ : Nat), .slice a1 128 c1]) := Lib.hid (by rw [← hf3]; exact hlies)
      have hb1 : Below wr.heap.size wr (wr.alloc (.cells #[.int .i64 (at_ : Nat), .slice a1 128 c1] 60)) := (Below.refl _ _).alloc (Nat.le_refl _) _
      have hbox : (wr.alloc (.cells #[.int .i64 (at_ : Nat), .slice a1 128 c1] 60)).heap[wr.heap.size]? = some (.cells #[.int .i64 (at_ : Nat), .slice a1 128 c1] 60 (0, 0)) := heap_alloc_at
      have hW1 := WrAt.below hW hb1
      have hbo : ∀ r, r = w.heap.size ∨ u.ownBlock = some r → ¬ r = wr.heap.size := fun r hr e => by have := WrAt.own_lt hW hr; omega
      have hput := put_bits _ w.heap.size _ _ hW1 at_ 12 (by rw [List.length_append, bitsN_len, hpl]; omega) (by decide) (by omega)
      have hat63 : (at_ : Int) < 4096 := by omega
      have HB1 := Lib.hid (hb.trans (hb1.mono hb.size))
      have HBOX := Lib.hid hbox
      have HBO := Lib.hid hbo
      have HPL := Lib.hid hpl
      have HTS := Lib.hid hts
      have HF4 := Lib.hid hf4
      have HF3 := Lib.hid hf3
      have HD3 := Lib.hid hd3
      clear hx hcells hlies hpx hdv hb hW hb1 hbox hW1 hbo hpl hts hf4 hf3 hd3 hf1 hd1
      go_upto_region 6 with (first
        | ((with_reducible refine wpList_loadA (aggPt _ _) HLS.out ?_ ?_); rfl; go_frame)
        | (go_at_call 56; refine hput.mono ?_; rintro e w5 ⟨rfl, v5, hW5, hb5, hm5⟩; have HW5 := Lib.hid hW5; have HB5 := Lib.hid (HB1.out.trans hb5); have HM5 := Lib.hid hm5; clear hW5 hb5 hm5)
        | fail)
      have hbox5 := HM5.out.mod.heap HBOX.out (fun h => HBO.out _ h rfl)
      have hwr5 : wr.heap.size < w5.heap.size := lt_of_block hbox5
      have q1 := cell_of (o := 1) hbox5 rfl
      clear hput hbox5
      go_wp2_with fail
      go_loopw [29] (fun jv wi => ∃ j : Nat, j ≤ 128 ∧ jv = .int .i64 j ∧ Below w.heap.size w wi ∧ ∃ u, WrAt wi w.heap.size u ((bitsN ps.length 8 ++ (ps.take k).flatMap putBits ++ bitsN at_ 12) ++ (dat.take j).flatMap fun c => bitsN c 8)) (fun jv _ => 128 - (intOf jv).toNat)
      case atStart => exact ⟨0, Nat.zero_le _, rfl, HB5.out, v5, by simpa using HW5.out⟩
      case round =>
        obtain ⟨j, hj, rfl, hb6, u6, hW6⟩ := hrel
        by_cases hjl : j < 128
        · have hjl' : (j : Int) < 128 := by omega
          obtain ⟨c, hc⟩ : ∃ c, dat[j]? = some c := ⟨_, List.getElem?_eq_getElem (by rw [HF3.out]; exact hjl)⟩
          have hc8 := HF4.out c (List.mem_of_getElem? hc)
          obtain ⟨bd, od, rfl, hbd, hcd⟩ := HD3.out (by decide)
          have hcell := (hcd j c hc).below' hb6 hbd 0 (by simp)
          have hcj : wr.cell? ⟨bd, od + j, none⟩ = some (.int .u8 (c : Nat)) := by
            rw [Nat.mul_one, Nat.add_zero] at hcell
            exact hcell
          have hdt : (dat.take (j + 1)).flatMap (fun c => bitsN c 8) = (dat.take j).flatMap (fun c => bitsN c 8) ++ bitsN c 8 := by
            rw [List.take_add_one, hc]
            simp
          have hput := put_bits wr w.heap.size _ _ hW6 c 8 (by simp only [List.length_append, bitsN_len, dat_len, HPL.out, List.length_take]; omega) (by decide) (by omega)
          rw [List.append_assoc, ← hdt] at hput
          have hc8' : (c : Int) < 256 := by omega
          have HB6 := Lib.hid hb6
          clear hcell hc hcd hdt hb6 hW6
          go_wp2_with (first
            | (go_at_call 56; refine hput.mono ?_; rintro e w7 ⟨rfl, v7, hW7, hb7, hm7⟩; have HW7 := Lib.hid hW7; have HB7 := Lib.hid (HB6.out.trans hb7); clear hW7 hb7 hm7)
            | fail)
          go_roundw
          case rel => exact ⟨j + 1, by omega, by go_num, HB7.out, v7, HW7.out⟩
          case measure => simp [intOf]; omega
        · obtain rfl : j = 128 := by omega
          have hall : (dat.take 128).flatMap (fun c => bitsN c 8) = dat.flatMap fun c => bitsN c 8 := by rw [List.take_of_length_le (by rw [HF3.out]; exact Nat.le_refl _)]
          rw [hall] at hW6
          have hnx : bitsN ps.length 8 ++ (ps.take (k + 1)).flatMap putBits = (bitsN ps.length 8 ++ (ps.take k).flatMap putBits ++ bitsN at_ 12) ++ dat.flatMap fun c => bitsN c 8 := by
            rw [HTS.out, List.flatMap_append, List.flatMap_singleton]
            simp [putBits]
          rw [← hnx] at hW6
          have HW6 := Lib.hid hW6
          have HB6 := Lib.hid hb6
          clear hall hnx hW6 hb6
          go_wp2
          go_roundw
          case rel => exact ⟨k + 1, by omega, by go_num, HB6.out, u6, HW6.out⟩
          case measure => simp [intOf]; omega
    · obtain rfl : k = ps.length := by omega
      rw [List.take_length] at hW
      have hlen : (bitsN ps.length 8 ++ ps.flatMap putBits).length ≤ 400000 := by
        rw [List.length_append, bitsN_len, puts_len ps fun q hq => (HFP.out q hq).2.2.1]
        omega
      have hdone := done_any wr w.heap.size _ _ hW hlen
      have HB := Lib.hid hb
      clear hb hW hlen
      go_wp2_with fail
      refine hdone.mono ?_
      rintro e w5 ⟨v5, rfl, hO5, hb5⟩
      have hO5' : LOut en8 1 5 w.heap.size w5 v5 (recB ps) := hO5.mono HB.out.size
      have HO5 := Lib.hid hO5'
      have HB5 := Lib.hid (HB.out.trans (hb5.mono HB.out.size))
      obtain ⟨a5, n5, c5, rfl⟩ := hO5.shape
      clear hO5 hO5' hb5 hdone
      go_wp2
      go_ret
      exact ⟨_, rfl, HO5.out, HB5.out⟩
end Go.Proofs.Ytbkblhoagfonjaa

/- Need; the newest epoch; walked. -/
namespace Go.Tn.Dk
open Go.Tn.Bt Go.Tn.Lp
def needB (ps : List Pt) : Nat := if transB ps 4096 = true then ((recB ps).length + 105) / 106 else 0
end Go.Tn.Dk
namespace Go.Proofs.Ytbkblhoagfonjaa
open Go.RowKit Go.Tn Go.Tn.Bt Go.Tn.Lp Go.Tn.Dk
/-- The greatest epoch at an end of the first sectors. -/
def newestB (d : Dsk) : Nat → Nat
  | 0 => 0
  | k + 1 => max (max (newestB d k) (endsB (d.get k)).1) (endsB (d.get k)).2
theorem fit_of_trans {ps : List Pt} {homes : Nat} (h : transB ps homes = true) (hh : homes ≤ 4096) (hb : ∀ p ∈ ps, ∀ x ∈ p.2, x < 256) : ∀ p ∈ ps, fitP p := fun p hp => by
  obtain ⟨h1, h2, h3⟩ := ((transB_iff ps homes).1 h).2.2.1 p hp
  exact ⟨h1, by omega, h3, hb p hp⟩
theorem need_any (w : World) (v : Value) (ps : List Pt) (h : PtsI w v ps) (hb : ∀ p ∈ ps, ∀ x ∈ p.2, x < 256) (hn : ps.length ≤ 100000) :
    Calls Try.prog 13 #[v] w fun e w' => e = .returned (.int .i64 (needB ps : Nat)) ∧ Below w.heap.size w w' := by
  have htr := trans_any w v ps h 4096 (by decide) hn
  obtain ⟨ao, n, cap, rfl⟩ : ∃ ao n cap, v = .slice ao n cap := by
    obtain ⟨xs, -, ⟨ao, cap, rfl, -⟩, -⟩ := h
    exact ⟨_, _, _, rfl⟩
  unfold needB
  cases hT : transB ps 4096 with
  | false =>
    rw [hT] at htr
    rw [if_neg (by decide)]
    clear hT
    go_enter Try.func13, Try.ntmps13
    go_wp2_with (first
      | (go_at_call 35; refine htr.mono ?_; rintro e w2 ⟨rfl, hb2⟩; have HB2 := Lib.hid hb2; clear hb2)
      | fail)
    go_ret
    exact ⟨rfl, HB2.out⟩
  | true =>
    rw [hT] at htr
    rw [if_pos rfl]
    have hfit := fit_of_trans hT (Nat.le_refl _) hb
    have hn24 := ((transB_iff ps 4096).1 hT).2.1
    have hlen : (recB ps).length ≤ 4000 := by
      rw [recB_len fun p hp => (hfit p hp).2.2.1]
      omega
    have HP := Lib.hid h
    have HFIT := Lib.hid hfit
    have hdiv : (((recB ps).length : Int) + 106 - 1) / 106 = ((((recB ps).length + 105) / 106 : Nat) : Int) := by omega
    generalize ((recB ps).length + 105) / 106 = q at *
    have hlen' : ((recB ps).length : Int) ≤ 4000 := by omega
    clear hT h hb hfit
    go_enter Try.func13, Try.ntmps13
    go_wp2_with fail
    refine htr.mono ?_
    rintro e w2 ⟨rfl, hb2⟩
    have henc := encode_any w2 _ ps (HP.out.below hb2) HFIT.out hn24
    have HB2 := Lib.hid hb2
    clear hb2 htr
    go_wp2_with fail
    refine henc.mono ?_
    rintro e w3 ⟨v3, rfl, hO3, hb3⟩
    obtain ⟨a3, c3, rfl, -⟩ := hO3.sl el8.len
    have HB3 := Lib.hid (HB2.out.trans (hb3.mono HB2.out.size))
    clear hO3 hb3 henc
    go_wp2
    go_ret
    refine ⟨?_, HB3.out⟩
    show Ending.returned (.int .i64 ((((recB ps).length : Int) + 106 - 1) / 106)) = _
    rw [hdiv]
theorem newest_le (d : Dsk) (k : Nat) : ∀ i, i < k → (endsB (d.get i)).1 ≤ newestB d k ∧ (endsB (d.get i)).2 ≤ newestB d k := by
  induction k with
  | zero => intro i hi; omega
  | succ k ih =>
    intro i hi
    simp only [newestB]
    by_cases h : i = k
    · subst h
      omega
    · have := ih i (by omega)
      omega
theorem ends_lt {b : List Nat} (hl : b.length = 128) (hb : ∀ x ∈ b, x < 256) : (endsB b).1 < 16777216 ∧ (endsB b).2 < 16777216 := by
  have hN := numOf_lt 8 (b.take 8) (by rw [List.length_take]; omega) fun x hx => hb x (List.mem_of_mem_take hx)
  have hM := numOf_lt 8 (b.drop 120) (by rw [List.length_drop]; omega) fun x hx => hb x (List.mem_of_mem_drop hx)
  unfold endsB
  simp only
  omega
theorem newest_lt {d : Dsk} (h : d.ok) : ∀ k, k ≤ d.L.length → newestB d k < 16777216
  | 0, _ => by simp [newestB]
  | k + 1, hk => by
    have h1 := newest_lt h k (by omega)
    have h2 := h.get (i := k) (by omega)
    have h3 := ends_lt h2.1 h2.2
    simp only [newestB]
    omega
set_option maxRecDepth 20000 in
theorem newest_any {w : World} {F FD : Nat → Prop} {g p : Nat} {l : Lg} {d : Dsk} (h : LAt w F g p l) (hd : DAt w FD p d) (hn : l.n + 3 ≤ d.L.length) :
    Calls Try.prog 28 #[.pointer (some ⟨g, 0, none⟩)] w fun e w' => e = .returned (.tuple #[.int .u64 (newestB d (2 + l.n) : Nat), .int .i64 0]) ∧ Below w.heap.size w w' := by
  have hhi := hd.ok.hi
  have hlt := h.lt g h.fg
  obtain ⟨m, L, clk, hb, -⟩ := h.ex
  have c1 := cell_of (o := 1) hb rfl
  have HBLK := Lib.hid (cell_of (o := 0) hb rfl)
  have HD := Lib.hid hd
  have hokd := hd.ok
  have HOK := Lib.hid hokd
  obtain ⟨n, hne⟩ : ∃ n, 2 + l.n = n := ⟨_, rfl⟩
  have hs : (2 : Int) + (l.n : Nat) = (n : Nat) := by omega
  have hnl : n ≤ d.L.length := by omega
  rw [hne]
  have hn63 : (n : Int) ≤ 4096 := by omega
  have hl63 : ((l.n : Nat) : Int) ≤ 4096 := by omega
  clear h hb hd hne hokd
  go_enter Try.func28, Try.ntmps28
  go_wp2_with fail
  clear hs c1
  go_loopw [4, 15] (fun ov iv wi => ∃ k : Nat, k ≤ n ∧ iv = .int .i64 k ∧ ov = .int .u64 (newestB d k : Nat) ∧ Below w.heap.size w wi) (fun _ iv _ => n - (intOf iv).toNat)
  case atStart => exact ⟨0, Nat.zero_le _, rfl, rfl, Below.refl _ _⟩
  case round =>
    obtain ⟨k, hk, rfl, rfl, hb⟩ := hrel
    by_cases hkl : k < n
    · have hkl' : (k : Int) < (n : Int) := by omega
      have c0 : wr.cell? ⟨g, 0, none⟩ = some (.pointer (some ⟨p, 0, none⟩)) := (hb.cell (p := ⟨g, 0, none⟩) hlt).trans HBLK.out
      have hrd := dread_any (HD.out.below hb) k (by omega)
      have hsec := HOK.out.get (i := k) (by omega)
      have hmx : newestB d (k + 1) = max (max (newestB d k) (endsB (d.get k)).1) (endsB (d.get k)).2 := rfl
      have hl1 := newest_lt HOK.out k (by omega)
      have hl2 := ends_lt hsec.1 hsec.2
      generalize d.get k = bs at *
      obtain ⟨x1, hx1⟩ : ∃ x, (endsB bs).1 = x := ⟨_, rfl⟩
      obtain ⟨x2, hx2⟩ : ∃ x, (endsB bs).2 = x := ⟨_, rfl⟩
      have hends := fun w v h => ends_any w v bs h hsec.2 hsec.1
      simp only [hx1, hx2] at hmx hl2 hends
      have HB := Lib.hid hb
      have HMX := Lib.hid hmx
      have HLEN := Lib.hid hsec.1
      generalize newestB d k = y at *
      clear hb hmx hsec hx1 hx2
      go_wp2_with fail
      refine hrd.mono ?_
      rintro e w3 ⟨v, rfl, hv, hb3⟩
      have hends := hends w3 v hv.sl
      obtain ⟨va, vc, rfl, -⟩ := hv.sl
      have HB3 := Lib.hid (HB.out.trans (hb3.mono HB.out.size))
      clear hv hb3 hrd
      go_wp2_with fail
      refine hends.mono ?_
      rintro e w4 ⟨rfl, hb4⟩
      have HB4 := Lib.hid (HB3.out.trans (hb4.mono HB3.out.size))
      clear hb4 hends
      go_wp2_with fail
      exact ⟨⟨k + 1, by omega, by go_num, by rw [HMX.out]; exact congrArg (Value.int .u64) (by split <;> split <;> omega), HB4.out⟩, by simp [intOf]; omega⟩
    · obtain rfl : k = n := by omega
      have HB := Lib.hid hb
      clear hb
      go_wp2
      go_ret2
      exact ⟨rfl, HB.out⟩
end Go.Proofs.Ytbkblhoagfonjaa
