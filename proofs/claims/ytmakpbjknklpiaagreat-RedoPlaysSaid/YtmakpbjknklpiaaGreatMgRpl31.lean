/- The document's log in memory; Free, Home, Sync, walked. -/
import Derived.Test.YtmakpbjknklpiaaGreatMgRpl30
import Derived.Test.YtmakpbjknklpiaaGreatMgRpl11
import Derived.Test.YtmakpbjknklpiaaGreatMgRpl19
import Derived.Test.YtmakpbjknklpiaaGreatMgRpl15
/- The document's heads: one, Load, walked. -/
namespace Go.Tn.Bt
open Go.Tn.Lp
theorem natOf_unpack : ∀ (n : Nat) (b : List Nat), b.length = n → (∀ x ∈ b, x < 256) → natOf (unpack b) = numOf b
  | 0, b, h, _ => by
    rw [List.eq_nil_of_length_eq_zero h]
    rfl
  | n + 1, b, h, hb => by
    obtain ⟨c, hx⟩ : ∃ c, b[n]? = some c := ⟨_, List.getElem?_eq_getElem (by omega)⟩
    have e : b = b.take n ++ [c] := by
      conv => lhs; rw [← List.take_of_length_le (l := b) (i := n + 1) (by omega), List.take_add_one, hx]
      rfl
    have hc : c < 256 := hb c (List.mem_of_getElem? hx)
    have h1 := natOf_unpack n (b.take n) (by rw [List.length_take]; omega) fun x hx => hb x (List.mem_of_mem_take hx)
    rw [e, unpack_append, natOf_append, numOf_snoc, h1]
    have hu : unpack [c] = bitsN c 8 := by simp [unpack]
    rw [hu, bitsN_len, natOf_bitsN, Nat.mod_eq_of_lt (show c < 2 ^ 8 from hc)]
theorem unpack_take5 {b : List Nat} (h : b.length = 8) : (unpack b).take 40 = unpack (b.take 5) ∧ ((unpack b).drop 40).take 24 = unpack (b.drop 5) := by
  have h1 := unpack_drop 5 b
  have h2 : unpack b = unpack (b.take 5) ++ unpack (b.drop 5) := by rw [← unpack_append, List.take_append_drop]
  have h3 : (unpack (b.take 5)).length = 40 := by rw [unpack_len, List.length_take]; omega
  constructor
  · rw [h2, List.take_append_of_le_length (by omega), List.take_of_length_le (by omega)]
  · rw [h1, List.take_of_length_le (by rw [unpack_len, List.length_drop]; omega)]
end Go.Tn.Bt
namespace Go.Proofs.YtmakpbjknklpiaaGreat
open Go.RowKit Go.Tn Go.Tn.Bt Go.Tn.Lp Go.Tn.Dk
theorem oneXH (a b c : Int) : (#[.int .u64 a, .int .u64 b, .int .u64 c] : Array Value).all (·.oneCell') = true := by simp [Value.oneCell']
theorem builtXH (a b c : Int) : Tryz.prog.built 82 [(0, .int .u64 a), (1, .int .u64 b), (2, .int .u64 c)] = some #[.int .u64 a, .int .u64 b, .int .u64 c] := by kernel_rfl
/-- What one answers: in memory. -/
theorem hxone_none (w : World) (v : Value) (bs : List Nat) (h : LSl en8 1 w v bs) (hs : secB bs) (i : Nat) (hu : unsealB bs = none) : Calls Tryz.prog 75 #[v, .int .u64 i] w
    fun e w' => e = .returned (hreadV (hdB bs i)) ∧ Below w.heap.size w w' := by
  have hb1 : Below w.heap.size w (w.alloc (.cells #[.int .u64 0, .int .u64 0, .int .u64 0] 82)) := (Below.refl _ _).alloc (Nat.le_refl _) _
  have hH : (w.alloc (.cells #[.int .u64 0, .int .u64 0, .int .u64 0] 82)).heap[w.heap.size]? = some (.cells #[.int .u64 0, .int .u64 0, .int .u64 0] 82 (0, 0)) := heap_alloc_at
  have hun := yunseal_any _ v bs (h.below hb1) hs
  unfold UnR at hun
  rw [hu] at hun
  have hhd : hdB bs i = none := by unfold hdB; rw [hu]
  rw [hhd]
  obtain ⟨a0, n0, c0, rfl⟩ : ∃ a n c, v = .slice a n c := by
    obtain ⟨ao, cap, rfl, -⟩ := h
    exact ⟨_, _, _, rfl⟩
  have HUN := Lib.hid hun
  have HB1 := Lib.hid hb1
  have HH := Lib.hid hH
  clear hun hb1 hH h hs hu hhd
  generalize hw1 : w.alloc (.cells #[.int .u64 0, .int .u64 0, .int .u64 0] 82) = w1 at *
  go_enter Tryz.func75, Tryz.ntmps75
  go_upto_region 1 with fail
  simp only [hw1] at *
  clear hw1
  obtain ⟨px, hpx⟩ : ∃ px, w.heap.size = px := ⟨_, rfl⟩
  have HPX := Lib.hid hpx
  rw [hpx] at HH ⊢
  clear hpx
  go_wp2_with (first
    | (go_at_call 76; refine HUN.out.mono ?_; rintro e w5 ⟨hb5, rfl⟩; have HB5 := Lib.hid hb5; have HP5 := Lib.hid ((((Below.refl w5.heap.size w5).alloc (Nat.le_refl _) (.cells #[.int .u64 0, .int .u64 0, .bool false, .bool false, .slice none 0 0] 93)).block px (Nat.lt_of_lt_of_le (lt_of_block HH.out) hb5.size)).trans ((hb5.block _ (lt_of_block HH.out)).trans HH.out)); clear hb5; go_frame)
    | ((with_reducible refine wpList_storeA_new (aggXP _ _ _ _ _) rfl (oneXP _ _ _ _ _ _ _) ?_ ?_ ?_); rfl; rfl; go_frame)
    | ((with_reducible refine wpList_storeB (aggXH 0 0 0) ?_ ?_ HP5.out rfl (oneXH _ _ _) ?_); rfl; rfl; (intro w7 hh7 hm7; have HH7 := Lib.hid hh7; have HM7 := Lib.hid hm7; clear hh7 hm7); go_frame)
    | fail)
  (try simp only [Exit.inBlock, Exit.then])
  refine bodyPost_ret (results_cellT rfl _ rfl (aggXH _ _ _) (lies_of HH7.out)) rfl ?_
  have hx := HPX.out
  have s1 := HB1.out.size
  have hb5 : Below w.heap.size w (w5.alloc (.cells #[.int .u64 0, .int .u64 0, .bool false, .bool false, .slice none 0 0] 93)) := (HB1.out.trans (HB5.out.mono s1)).alloc (Nat.le_trans s1 HB5.out.size) _
  exact ⟨rfl, hb5.trans (HM7.out.below hb5.size fun x hx1 e => by omega)⟩
set_option maxRecDepth 20000 in
set_option maxHeartbeats 4000000 in
theorem hxone_some (w : World) (v : Value) (bs : List Nat) (h : LSl en8 1 w v bs) (hs : secB bs) (i : Nat) (hi : i ≤ 1) (ep ct : Nat) (fi la : Bool) (da : List Nat) (hu : unsealB bs = some ⟨ep, ct, fi, la, da⟩) (hda : ∀ x ∈ da, x < 256) (hct : ct ≤ 1099511627775) : Calls Tryz.prog 75 #[v, .int .u64 i] w
    fun e w' => e = .returned (hreadV (hdB bs i)) ∧ Below w.heap.size w w' := by
  have hb1 : Below w.heap.size w (w.alloc (.cells #[.int .u64 0, .int .u64 0, .int .u64 0] 82)) := (Below.refl _ _).alloc (Nat.le_refl _) _
  have hH : (w.alloc (.cells #[.int .u64 0, .int .u64 0, .int .u64 0] 82)).heap[w.heap.size]? = some (.cells #[.int .u64 0, .int .u64 0, .int .u64 0] 82 (0, 0)) := heap_alloc_at
  have hun := yunseal_any _ v bs (h.below hb1) hs
  unfold UnR at hun
  rw [hu] at hun
  simp only [pcCs] at hun
  have hhd : hdB bs i = headP ⟨ep, ct, fi, la, da⟩ i := by unfold hdB; rw [hu]
  rw [hhd]
  obtain ⟨a0, n0, c0, rfl⟩ : ∃ a n c, v = .slice a n c := by
    obtain ⟨ao, cap, rfl, -⟩ := h
    exact ⟨_, _, _, rfl⟩
  obtain ⟨bad, hbad⟩ : ∃ bad, decide (¬ (fi = true ∧ la = true ∧ ct % 2 = i ∧ da.length = 8)) = bad := ⟨_, rfl⟩
  have hii : (i : Int) ≤ 1 := by omega
  have HBD := Lib.hid hbad
  have HUN := Lib.hid hun
  have HB1 := Lib.hid hb1
  have HH := Lib.hid hH
  have HDA := Lib.hid hda
  have HCT := Lib.hid hct
  clear hun hb1 hH h hs hu hhd hbad hda hct
  generalize hw1 : w.alloc (.cells #[.int .u64 0, .int .u64 0, .int .u64 0] 82) = w1 at *
  go_enter Tryz.func75, Tryz.ntmps75
  go_upto_region 1 with fail
  simp only [hw1] at *
  clear hw1
  obtain ⟨px, hpx⟩ : ∃ px, w.heap.size = px := ⟨_, rfl⟩
  have HPX := Lib.hid hpx
  rw [hpx] at HH ⊢
  clear hpx
  go_upto_region 2 with (first
    | (go_at_call 76; refine HUN.out.mono ?_; rintro e w5 ⟨hb5, v5, rfl, hO5⟩; obtain ⟨a5, n5, c5, rfl⟩ := LOut.shape hO5; have HB5 := Lib.hid hb5; have HO5 := Lib.hid hO5; clear hb5 hO5; go_frame)
    | ((with_reducible refine wpList_storeA_new (aggXP _ _ _ _ _) rfl (oneXP _ _ _ _ _ _ _) ?_ ?_ ?_); rfl; rfl; go_frame)
    | fail)
  have hba : Below w5.heap.size w5 (w5.alloc (.cells #[.int .u64 (ep : Nat), .int .u64 (ct : Nat), .bool fi, .bool la, .slice a5 n5 c5] 93)) := (Below.refl _ _).alloc (Nat.le_refl _) _
  have hX : (w5.alloc (.cells #[.int .u64 (ep : Nat), .int .u64 (ct : Nat), .bool fi, .bool la, .slice a5 n5 c5] 93)).heap[w5.heap.size]? = some (.cells #[.int .u64 (ep : Nat), .int .u64 (ct : Nat), .bool fi, .bool la, .slice a5 n5 c5] 93 (0, 0)) := heap_alloc_at
  have hds := (HO5.out.sl el8.len).below hba
  obtain ⟨ao, cap, hvv, d1, d2, d3⟩ := id hds
  obtain ⟨rfl, rfl, rfl⟩ : a5 = ao ∧ n5 = da.length ∧ c5 = cap := by simpa using hvv
  have hp5 := (HB5.out.block px (lt_of_block HH.out)).trans HH.out
  have hp6 := (hba.block px (lt_of_block hp5)).trans hp5
  have s1 := HB1.out.size
  have hb6 : Below w.heap.size w (w5.alloc (.cells #[.int .u64 (ep : Nat), .int .u64 (ct : Nat), .bool fi, .bool la, .slice a5 da.length c5] 93)) := (HB1.out.trans (HB5.out.mono s1)).alloc (Nat.le_trans s1 HB5.out.size) _
  have hd63 : (da.length : Int) ≤ 9223372036854775807 := by unfold maxLen at d2; omega
  obtain ⟨xb, hxb⟩ : ∃ xb, w5.heap.size = xb := ⟨_, rfl⟩
  have hpw : px < xb := by rw [← hxb]; exact lt_of_block hp5
  rw [hxb] at hX ⊢
  have z1 := cell_of (o := 1) hX rfl
  have z2 := cell_of (o := 2) hX rfl
  have z3 := cell_of (o := 3) hX rfl
  have z4 := cell_of (o := 4) hX rfl
  have HDS := Lib.hid hds
  have HP6 := Lib.hid hp6
  have HB6 := Lib.hid hb6
  have hxl := lt_of_block hX
  clear hxb hba hX hds hvv d3 hp5 hp6 hb6 HO5 HB5 HUN HB1 HH s1
  generalize w5.alloc _ = w6 at *
  obtain ⟨r, hr⟩ : ∃ r, ct % 2 = r := ⟨_, rfl⟩
  have hge : (ct : Int) % 2 = ((r : Nat) : Int) := by omega
  have hgt : (ct : Int).tmod 2 = ((r : Nat) : Int) := by rw [Int.tmod_eq_emod_of_nonneg (by omega)]; exact hge
  have HR := Lib.hid hr
  clear hr
  go_cut [37] (fun s wx => s = .bool bad ∧ wx = w6)
  case first =>
    have hbd := HBD.out
    rw [HR.out] at hbd
    by_cases hri : r = i
    · have hn : (((r : Nat) : Int) != ((i : Nat) : Int)) = false := by rw [bne_eq_false_iff_eq]; omega
      by_cases h8 : da.length = 8
      · have hn8 : (((da.length : Nat) : Int) != 8) = false := by rw [bne_eq_false_iff_eq]; omega
        have hfin : bad = !(fi && la) := by rw [← hbd]; cases fi <;> cases la <;> simp [hri, h8]
        clear hbd h8 hri
        cases fi <;> cases la <;> (subst hfin; go_wp2; go_meet; case rel => exact ⟨rfl, rfl⟩)
      · have hn8 : (((da.length : Nat) : Int) != 8) = true := by rw [bne_iff_ne]; omega
        have hfin : bad = true := by rw [← hbd]; simp [h8]
        subst hfin
        clear hbd h8 hri
        cases fi <;> cases la <;> (go_wp2; go_meet; case rel => exact ⟨rfl, rfl⟩)
    · have hn : (((r : Nat) : Int) != ((i : Nat) : Int)) = true := by rw [bne_iff_ne]; omega
      have hfin : bad = true := by rw [← hbd]; simp [hri]
      subst hfin
      clear hbd hri
      cases fi <;> cases la <;> (go_wp2; go_meet; case rel => exact ⟨rfl, rfl⟩)
  case rest =>
  obtain ⟨rfl, hw⟩ := hcut
  obtain rfl := hw.symm
  clear hw
  cases bad with
  | true =>
    have hno : headP ⟨ep, ct, fi, la, da⟩ i = none := by
      unfold headP
      exact if_neg (of_decide_eq_true HBD.out)
    have HNO := Lib.hid hno
    clear hno z1 z2 z3 z4
    go_wp2_with (first
      | ((with_reducible refine wpList_storeB (aggXH 0 0 0) ?_ ?_ HP6.out rfl (oneXH _ _ _) ?_); rfl; rfl; (intro w7 hh7 hm7; have HH7 := Lib.hid hh7; have HM7 := Lib.hid hm7; clear hh7 hm7); go_frame)
      | fail)
    (try simp only [Exit.inBlock, Exit.then])
    refine bodyPost_ret (results_cellT rfl _ rfl (aggXH _ _ _) (lies_of HH7.out)) rfl ?_
    have hx := HPX.out
    rw [HNO.out]
    exact ⟨rfl, HB6.out.trans (HM7.out.below HB6.out.size fun x hx1 e => by omega)⟩
  | false =>
    have hC : fi = true ∧ la = true ∧ ct % 2 = i ∧ da.length = 8 := Decidable.of_not_not (of_decide_eq_false HBD.out)
    have hyes : headP ⟨ep, ct, fi, la, da⟩ i = some ⟨ct, numOf (da.take 5), numOf (da.drop 5)⟩ := by
      unfold headP
      obtain ⟨u1, u2⟩ := unpack_take5 hC.2.2.2
      rw [if_pos hC, u1, u2, natOf_unpack 5 _ (by rw [List.length_take, hC.2.2.2]; rfl) fun x hx => HDA.out x (List.mem_of_mem_take hx), natOf_unpack 3 _ (by rw [List.length_drop, hC.2.2.2]) fun x hx => HDA.out x (List.mem_of_mem_drop hx)]
    have hl8 := hC.2.2.2
    rw [hl8] at HDS z4 d1
    have HYES := Lib.hid hyes
    have HL8 := Lib.hid hl8
    clear hyes hC hl8
    have hv5 := fun W (hW : LSl en8 1 W (.slice a5 8 c5) da) => yvalue_any W (.slice a5 5 c5) (da.take 5) (hW.take (by rw [HL8.out]; decide)) (fun x hx => HDA.out x (List.mem_of_mem_take hx)) (by rw [List.length_take]; omega)
    obtain ⟨ad, had⟩ : ∃ ad, (if c5 = 5 then a5 else a5.map (·.add (5 * 1))) = ad := ⟨_, rfl⟩
    have hv3 := fun W (hW : LSl en8 1 W (.slice a5 8 c5) da) => yvalue_any W (.slice ad 3 (c5 - 5)) (da.drop 5) (hW.drop2 (i := 5) (by rw [HL8.out]; decide) had (by decide) rfl) (fun x hx => HDA.out x (List.mem_of_mem_drop hx)) (by rw [List.length_drop, HL8.out]; decide)
    obtain ⟨T, hT⟩ : ∃ T, numOf (da.take 5) = T := ⟨_, rfl⟩
    obtain ⟨G, hG⟩ : ∃ G, numOf (da.drop 5) = G := ⟨_, rfl⟩
    simp only [hT] at hv5
    simp only [hG] at hv3
    have hye := HYES.out
    rw [hT, hG] at hye
    have HYE := Lib.hid hye
    have HV5 := Lib.hid (hv5 _ (HDS.out.below (Below.refl _ w6).drew))
    have HV3 := Lib.hid (hv3 _ (HDS.out.below (Below.refl _ w6).drew))
    have HAD := Lib.hid had
    clear hv5 hv3 hye had hT hG HYES
    have hS : w6.drew.cell? ⟨xb, 1, none⟩ = some (.int .u64 (ct : Nat)) ∧ w6.drew.cell? ⟨xb, 4, none⟩ = some (.slice a5 8 c5) := ⟨z1, z4⟩
    have hp6 : w6.drew.heap[px]? = some (.cells #[.int .u64 0, .int .u64 0, .int .u64 0] 82 (0, 0)) := HP6.out
    have h5c : 5 ≤ c5 := by omega
    obtain ⟨w9, hst, hh9, hm9⟩ := exec_storeB (ρ := fun _ => undef) (ty := 0) (pos := "") (after := #[]) (x := .tmp 0) (y := .tmp 0) (aggXH (ct : Nat) (T : Nat) (G : Nat)) hp6 rfl (oneXH _ _ _)
    clear z1 z2 z3 z4
    go_upto_region 4 with fail
    refine wp_region_x (fun w' => w'.cell? ⟨xb, 1, none⟩ = some (.int .u64 (ct : Nat)) ∧ w'.cell? ⟨xb, 4, none⟩ = some (.slice a5 8 c5)) [(0, 1), (1, 0), (2, 1), (3, 0), (4, 1), (6, 1), (7, 0), (8, 1), (5, 2), (9, 2), (10, 1), (11, 3), (12, 1)] (by kernel_rfl) (by kernel_rfl) (by intro d v c a w h; cases d <;> exact h) ?_
    iterate 1 (refine x_take rfl (fun K hK => ?_); go_simp; refine hK _ ?_; clear hK K)
    refine x_read rfl hS (fun w' h => exec_load1 ⟨⟨_, Tryz.underlying49, rfl⟩⟩ rfl h.1) ?_
    iterate 1 (refine x_take rfl (fun K hK => ?_); go_simp; refine hK _ ?_; clear hK K)
    refine x_read rfl hS (fun w' h => exec_load1 ⟨⟨_, Tryz.underlying53, rfl⟩⟩ rfl h.2) ?_
    refine x_take rfl (fun K hK => ⟨_, fun w' => exec_sliceHi (i := 5) Tryz.underlying53 size8 h5c rfl rfl, ?_⟩)
    go_simp
    refine hK _ ?_
    clear hK K
    iterate 1 (refine x_take rfl (fun K hK => ?_); go_simp; refine hK _ ?_; clear hK K)
    refine x_read rfl hS (fun w' h => exec_load1 ⟨⟨_, Tryz.underlying53, rfl⟩⟩ rfl h.2) ?_
    refine x_take rfl (fun K hK => ⟨_, fun w' => exec_sliceLo2 (i := 5) Tryz.underlying53 size8 (by decide) HAD.out rfl rfl rfl rfl, ?_⟩)
    go_simp
    refine hK _ ?_
    clear hK K
    refine x_show' rfl (fun K hK => ?_)
    go_simp
    refine HV5.out.mono ?_
    rintro e w7 ⟨rfl, hw⟩
    obtain rfl := hw.symm
    refine hK _ _ hS ?_
    clear hK K hw
    refine x_show' rfl (fun K hK => ?_)
    go_simp
    refine HV3.out.mono ?_
    rintro e w7 ⟨rfl, hw⟩
    obtain rfl := hw.symm
    refine hK _ _ hS ?_
    clear hK K hw
    refine x_take rfl (fun K hK => ⟨_, fun w' => exec_buildA rfl (builtXH (ct : Nat) (T : Nat) (G : Nat)), ?_⟩)
    go_simp
    refine hK _ ?_
    clear hK K
    refine x_skip rfl (hst _ _ _ _ _ _ _ _ rfl rfl) ?_
    iterate 1 (refine x_take rfl (fun K hK => ?_); go_simp; refine hK _ ?_; clear hK K)
    refine x_nil ?_
    have HH9 := Lib.hid hh9
    have HM9 := Lib.hid hm9
    clear hst hh9 hm9 hS hp6
    go_wp2
    (try simp only [Exit.inBlock, Exit.then])
    refine bodyPost_ret (results_cellT rfl _ rfl (aggXH _ _ _) (lies_of HH9.out)) rfl ?_
    have hx := HPX.out
    rw [HYE.out]
    exact ⟨rfl, HB6.out.drew.trans (HM9.out.below (show w.heap.size ≤ w6.drew.heap.size from HB6.out.size) fun x hx1 e => by omega)⟩
theorem hxone_any (w : World) (v : Value) (bs : List Nat) (h : LSl en8 1 w v bs) (hs : secB bs) (i : Nat) (hi : i ≤ 1) : Calls Tryz.prog 75 #[v, .int .u64 i] w
    fun e w' => e = .returned (hreadV (hdB bs i)) ∧ Below w.heap.size w w' := by
  cases hu : unsealB bs with
  | none => exact hxone_none w v bs h hs i hu
  | some p =>
    obtain ⟨hok, -, -, -⟩ := unseal_ends hs.2 hu
    obtain ⟨ep, ct, fi, la, da⟩ := p
    refine hxone_some w v bs h hs i hi ep ct fi la da hu ?_ hok.2.1
    have hp : pieceOf bs = ⟨ep, ct, fi, la, da⟩ := by
      unfold unsealB at hu
      split at hu
      · exact Option.some.inj hu
      · cases hu
    have hd : da = (pieceOf bs).da := by rw [hp]
    rw [hd]
    exact fun x hx => hs.2 x (List.mem_of_mem_drop (List.mem_of_mem_take hx))
end Go.Proofs.YtmakpbjknklpiaaGreat

/- The document's Load, walked. -/
namespace Go.Proofs.YtmakpbjknklpiaaGreat
open Go.RowKit Go.Tn Go.Tn.Bt Go.Tn.Lp Go.Tn.Dk
/-- Which of two heads Load answers. -/
theorem newer_eq (A B : Option Hd) : newer A B = if B.isSome = true ∧ (A.isSome = false ∨ (A.getD hd0).gen < (B.getD hd0).gen) then B else A := by
  cases B with
  | none => cases A <;> rfl
  | some y =>
    cases A with
    | none => simp [newer]
    | some x => simp [newer]
set_option maxRecDepth 20000 in
set_option maxHeartbeats 4000000 in
theorem hxload_any {w : World} {S F : Nat → Prop} {p : Nat} {d : Dsk} (h : RDk w S F p d) (a : Nat) (ha : a + 1 < d.L.length) : Calls Tryz.prog 39 #[.pointer (some ⟨p, 0, none⟩), .int .i64 a] w
    fun e w' => e = .returned (hloadV (d.head a)) ∧ Below w.heap.size w w' := by
  have hb1 : Below w.heap.size w (w.alloc (.cells #[.int .u64 0, .int .u64 0, .int .u64 0] 82)) := (Below.refl _ _).alloc (Nat.le_refl _) _
  have hH : (w.alloc (.cells #[.int .u64 0, .int .u64 0, .int .u64 0] 82)).heap[w.heap.size]? = some (.cells #[.int .u64 0, .int .u64 0, .int .u64 0] 82 (0, 0)) := heap_alloc_at
  have hD1 := h.below hb1
  have hhi := h.ok.hi
  have hs0 := h.ok.get (i := a) (by omega)
  have hs1 := h.ok.get (i := a + 1) ha
  have his0 := xis_any hD1 a (by omega)
  obtain ⟨lv, qv, xs, qs, h1, h2, h3, -⟩ := hD1.ex
  have hxl : xs.length = d.L.length := by rw [← h2]; simp
  obtain ⟨la, lc, rfl, l1, l2, -⟩ := h3.sl elB.len
  rw [hxl] at h1
  have c0 := cell_of (o := 0) h1 rfl
  have hai : (a : Int) + 1 < (d.L.length : Int) := by omega
  have hL63 : (d.L.length : Int) ≤ 4096 := by omega
  have e0 : decide ((a : Int) < 0) = false := decide_eq_false (by omega)
  have e1 : decide ((d.L.length : Int) - 1 ≤ (a : Int)) = false := decide_eq_false (by omega)
  obtain ⟨A, hA⟩ : ∃ A, hdB (d.get a) 0 = A := ⟨_, rfl⟩
  obtain ⟨B, hB⟩ : ∃ B, hdB (d.get (a + 1)) 1 = B := ⟨_, rfl⟩
  have hhd : d.head a = if B.isSome = true ∧ (A.isSome = false ∨ (A.getD hd0).gen < (B.getD hd0).gen) then B else A := by
    unfold Dsk.head
    rw [hA, hB, newer_eq]
  obtain ⟨⟨g1, t1, f1⟩, hA1⟩ : ∃ x, A.getD hd0 = x := ⟨_, rfl⟩
  obtain ⟨⟨g2, t2, f2⟩, hB1⟩ : ∃ x, B.getD hd0 = x := ⟨_, rfl⟩
  obtain ⟨x1, hA2⟩ : ∃ x, A.isSome = x := ⟨_, rfl⟩
  obtain ⟨x2, hB2⟩ : ∃ x, B.isSome = x := ⟨_, rfl⟩
  rw [hA1, hA2, hB1, hB2] at hhd
  have hrA : hreadV A = .tuple #[.agg #[.int .u64 (g1 : Nat), .int .u64 (t1 : Nat), .int .u64 (f1 : Nat)], .bool x1] := by unfold hreadV; rw [hA1, hA2]; rfl
  have hrB : hreadV B = .tuple #[.agg #[.int .u64 (g2 : Nat), .int .u64 (t2 : Nat), .int .u64 (f2 : Nat)], .bool x2] := by unfold hreadV; rw [hB1, hB2]; rfl
  have hlv : hloadV (d.head a) = if x2 = true ∧ (x1 = false ∨ g1 < g2) then .tuple #[.agg #[.int .u64 (g2 : Nat), .int .u64 (t2 : Nat), .int .u64 (f2 : Nat)], .bool true, .int .i64 0] else .tuple #[.agg #[.int .u64 (g1 : Nat), .int .u64 (t1 : Nat), .int .u64 (f1 : Nat)], .bool x1, .int .i64 0] := by
    rw [hhd]
    by_cases hc : x2 = true ∧ (x1 = false ∨ g1 < g2)
    · rw [if_pos hc, if_pos hc]
      unfold hloadV
      rw [hB1, hB2, hc.1]
      rfl
    · rw [if_neg hc, if_neg hc]
      unfold hloadV
      rw [hA1, hA2]
      rfl
  have hon := fun W v (hv : LSl en8 1 W v (d.get a)) => hxone_any W v _ hv hs0 0 (by decide)
  have hon1 := fun W v (hv : LSl en8 1 W v (d.get (a + 1))) => hxone_any W v _ hv hs1 1 (by decide)
  simp only [hA, hrA] at hon
  simp only [hB, hrB] at hon1
  have HLV := Lib.hid hlv
  have HON := Lib.hid hon
  have HON1 := Lib.hid hon1
  have HH := Lib.hid hH
  have HB1 := Lib.hid hb1
  have HD1 := Lib.hid hD1
  clear hlv hhd hrA hrB hon hon1 hA hB hA1 hA2 hB1 hB2 hH hb1 hD1 h1 h2 h3 hxl l1 l2 h hs0 hs1 ha
  generalize hw1 : w.alloc (.cells #[.int .u64 0, .int .u64 0, .int .u64 0] 82) = w1 at *
  go_enter Tryz.func39, Tryz.ntmps39
  go_upto_region 1 with fail
  simp only [hw1] at *
  clear hw1
  obtain ⟨px, hpx⟩ : ∃ px, w.heap.size = px := ⟨_, rfl⟩
  have HPX := Lib.hid hpx
  rw [hpx] at HH ⊢
  clear hpx
  go_upto_region 4 with (first
    | (go_at_call 26; refine his0.mono ?_; rintro e w2 ⟨⟨s2, rfl, hdat⟩, hw⟩; obtain rfl := hw.symm; obtain ⟨b2, n2, c2⟩ := s2; have HDAT := Lib.hid hdat; clear hw hdat his0; go_frame)
    | (go_at_call 75; refine (HON.out _ _ HDAT.out.rd).mono ?_; rintro e w3 ⟨rfl, hb3⟩; have HB3 := Lib.hid hb3; clear hb3; go_frame)
    | ((with_reducible refine wpList_storeA_new (aggXH _ _ _) rfl (oneXH _ _ _) ?_ ?_ ?_); rfl; rfl; go_frame)
    | fail)
  have hba : Below w3.heap.size w3 (w3.alloc (.cells #[.int .u64 (g1 : Nat), .int .u64 (t1 : Nat), .int .u64 (f1 : Nat)] 82)) := (Below.refl _ _).alloc (Nat.le_refl _) _
  have hXA : (w3.alloc (.cells #[.int .u64 (g1 : Nat), .int .u64 (t1 : Nat), .int .u64 (f1 : Nat)] 82)).heap[w3.heap.size]? = some (.cells #[.int .u64 (g1 : Nat), .int .u64 (t1 : Nat), .int .u64 (f1 : Nat)] 82 (0, 0)) := heap_alloc_at
  have hb14 : Below w1.heap.size w1 (w3.alloc (.cells #[.int .u64 (g1 : Nat), .int .u64 (t1 : Nat), .int .u64 (f1 : Nat)] 82)) := HB3.out.alloc HB3.out.size _
  have his1 := xis_any (HD1.out.below hb14) (a + 1) (by omega)
  rw [show ((a + 1 : Nat) : Int) = (a : Int) + 1 by omega] at his1
  have hp4 := (hb14.block px (lt_of_block HH.out)).trans HH.out
  obtain ⟨xa, hxa⟩ : ∃ xa, w3.heap.size = xa := ⟨_, rfl⟩
  have hpxa : px < xa := by rw [← hxa]; exact Nat.lt_of_lt_of_le (lt_of_block HH.out) HB3.out.size
  rw [hxa] at hXA ⊢
  have HXA := Lib.hid hXA
  have HP4 := Lib.hid hp4
  have HB14 := Lib.hid hb14
  clear hba hXA hp4 hb14 hxa HB3 HDAT c0
  generalize w3.alloc _ = w4 at *
  go_upto_region 5 with (first
    | (go_at_call 26; refine his1.mono ?_; rintro e w5 ⟨⟨s5, rfl, hdat⟩, hw⟩; obtain rfl := hw.symm; obtain ⟨b5, n5, c5⟩ := s5; have HDAT := Lib.hid hdat; clear hw hdat his1; go_frame)
    | (go_at_call 75; refine (HON1.out _ _ HDAT.out.rd).mono ?_; rintro e w6 ⟨rfl, hb6⟩; have HB6 := Lib.hid hb6; clear hb6; go_frame)
    | ((with_reducible refine wpList_storeA_new (aggXH _ _ _) rfl (oneXH _ _ _) ?_ ?_ ?_); rfl; rfl; go_frame)
    | fail)
  have hXB : (w6.alloc (.cells #[.int .u64 (g2 : Nat), .int .u64 (t2 : Nat), .int .u64 (f2 : Nat)] 82)).heap[w6.heap.size]? = some (.cells #[.int .u64 (g2 : Nat), .int .u64 (t2 : Nat), .int .u64 (f2 : Nat)] 82 (0, 0)) := heap_alloc_at
  have hb47 : Below w4.heap.size w4 (w6.alloc (.cells #[.int .u64 (g2 : Nat), .int .u64 (t2 : Nat), .int .u64 (f2 : Nat)] 82)) := HB6.out.alloc HB6.out.size _
  have hXA7 := (hb47.block _ (lt_of_block HXA.out)).trans HXA.out
  have hP7 := (hb47.block _ (lt_of_block HP4.out)).trans HP4.out
  have hB7 : Below w.heap.size w (w6.alloc (.cells #[.int .u64 (g2 : Nat), .int .u64 (t2 : Nat), .int .u64 (f2 : Nat)] 82)) := by
    have s1 := HB1.out.size
    have s2 := HB14.out.size
    exact (HB1.out.trans (HB14.out.mono s1)).trans (hb47.mono (Nat.le_trans s1 s2))
  obtain ⟨xb, hxb⟩ : ∃ xb, w6.heap.size = xb := ⟨_, rfl⟩
  rw [hxb] at hXB ⊢
  have z1 := cell_of (o := 0) hXA7 rfl
  have z2 := cell_of (o := 0) hXB rfl
  have HXA7 := Lib.hid hXA7
  have HXB := Lib.hid hXB
  have HP7 := Lib.hid hP7
  have HB7 := Lib.hid hB7
  clear hXB hb47 hXA7 hP7 hB7 hxb HDAT HXA HP4 HB14 HB6
  generalize w6.alloc _ = w7 at *
  by_cases hc : x2 = true ∧ (x1 = false ∨ g1 < g2)
  · have HRES := Lib.hid (HLV.out.trans (if_pos hc))
    have fin : ∀ w9, w9.heap[px]? = some (.cells #[.int .u64 (g2 : Nat), .int .u64 (t2 : Nat), .int .u64 (f2 : Nat)] 82 (0, 0)) → Mod (fun x => x = px) w7 w9 → Below w.heap.size w w9 := fun w9 _ hm => HB7.out.trans (hm.below HB7.out.size fun x hx1 e => by have := HPX.out; omega)
    have HFIN := Lib.hid fin
    obtain ⟨rfl, hc2⟩ := hc
    have HC2 := Lib.hid hc2
    clear hc2 fin
    cases x1 with
    | false =>
      go_wp2_with (first
        | ((with_reducible refine wpList_loadA (aggXH (g2 : Nat) (t2 : Nat) (f2 : Nat)) (lies_of HXB.out) ?_ ?_); rfl; go_frame)
        | ((with_reducible refine wpList_storeB (aggXH (g2 : Nat) (t2 : Nat) (f2 : Nat)) ?_ ?_ HP7.out rfl (oneXH (g2 : Nat) (t2 : Nat) (f2 : Nat)) ?_); rfl; rfl; (intro w9 hh9 hm9; have HH9 := Lib.hid hh9; have HM9 := Lib.hid hm9; clear hh9 hm9); go_frame)
        | fail)
      (try simp only [Exit.inBlock, Exit.then])
      refine bodyPost_ret (results_cell3 rfl _ rfl (aggXH _ _ _) (lies_of HH9.out)) rfl ?_
      rw [HRES.out]
      exact ⟨rfl, HFIN.out _ HH9.out HM9.out⟩
    | true =>
      have hlt : g1 < g2 := HC2.out.resolve_left (by decide)
      have hd : decide ((g1 : Int) < (g2 : Int)) = true := decide_eq_true (by omega)
      have hd' : decide (g1 < g2) = true := decide_eq_true hlt
      go_wp2_with (first
        | ((with_reducible refine wpList_loadA (aggXH (g2 : Nat) (t2 : Nat) (f2 : Nat)) (lies_of HXB.out) ?_ ?_); rfl; go_frame)
        | ((with_reducible refine wpList_storeB (aggXH (g2 : Nat) (t2 : Nat) (f2 : Nat)) ?_ ?_ HP7.out rfl (oneXH (g2 : Nat) (t2 : Nat) (f2 : Nat)) ?_); rfl; rfl; (intro w9 hh9 hm9; have HH9 := Lib.hid hh9; have HM9 := Lib.hid hm9; clear hh9 hm9); go_frame)
        | fail)
      (try simp only [Exit.inBlock, Exit.then])
      refine bodyPost_ret (results_cell3 rfl _ rfl (aggXH _ _ _) (lies_of HH9.out)) rfl ?_
      rw [HRES.out]
      exact ⟨rfl, HFIN.out _ HH9.out HM9.out⟩
  · have HRES := Lib.hid (HLV.out.trans (if_neg hc))
    have fin : ∀ w9, Mod (fun x => x = px) w7 w9 → Below w.heap.size w w9 := fun w9 hm => HB7.out.trans (hm.below HB7.out.size fun x hx1 e => by have := HPX.out; omega)
    have HFIN := Lib.hid fin
    have HC := Lib.hid hc
    clear hc fin
    cases x2 with
    | false =>
      go_wp2_with (first
        | ((with_reducible refine wpList_loadA (aggXH (g1 : Nat) (t1 : Nat) (f1 : Nat)) (lies_of HXA7.out) ?_ ?_); rfl; go_frame)
        | ((with_reducible refine wpList_storeB (aggXH (g1 : Nat) (t1 : Nat) (f1 : Nat)) ?_ ?_ HP7.out rfl (oneXH (g1 : Nat) (t1 : Nat) (f1 : Nat)) ?_); rfl; rfl; (intro w9 hh9 hm9; have HH9 := Lib.hid hh9; have HM9 := Lib.hid hm9; clear hh9 hm9); go_frame)
        | fail)
      (try simp only [Exit.inBlock, Exit.then])
      refine bodyPost_ret (results_cell3 rfl _ rfl (aggXH _ _ _) (lies_of HH9.out)) rfl ?_
      rw [HRES.out]
      exact ⟨rfl, HFIN.out _ HM9.out⟩
    | true =>
      have hx1 : x1 = true := by
        cases x1 with
        | true => rfl
        | false => exact absurd ⟨rfl, .inl rfl⟩ HC.out
      subst hx1
      have hlt : ¬ g1 < g2 := fun e => HC.out ⟨rfl, .inr e⟩
      have hd : decide ((g1 : Int) < (g2 : Int)) = false := decide_eq_false (by omega)
      have hd' : decide (g1 < g2) = false := decide_eq_false hlt
      have HLT := Lib.hid hlt
      clear hlt
      go_wp2_with (first
        | ((with_reducible refine wpList_loadA (aggXH (g1 : Nat) (t1 : Nat) (f1 : Nat)) (lies_of HXA7.out) ?_ ?_); rfl; go_frame)
        | ((with_reducible refine wpList_storeB (aggXH (g1 : Nat) (t1 : Nat) (f1 : Nat)) ?_ ?_ HP7.out rfl (oneXH (g1 : Nat) (t1 : Nat) (f1 : Nat)) ?_); rfl; rfl; (intro w9 hh9 hm9; have HH9 := Lib.hid hh9; have HM9 := Lib.hid hm9; clear hh9 hm9); go_frame)
        | fail)
      (try simp only [Exit.inBlock, Exit.then])
      refine bodyPost_ret (results_cell3 rfl _ rfl (aggXH _ _ _) (lies_of HH9.out)) rfl ?_
      rw [HRES.out]
      exact ⟨rfl, HFIN.out _ HM9.out⟩
end Go.Proofs.YtmakpbjknklpiaaGreat

/- The document's log in memory; Free, Home, Sync, walked. -/
namespace Go.Proofs.YtmakpbjknklpiaaGreat
open Go.RowKit Go.Tn Go.Tn.Bt Go.Tn.Lp Go.Tn.Dk
structure RLg (w : World) (S F : Nat → Prop) (g p : Nat) (l : Lg) (N : Nat) : Prop where
  ex : ∃ (hv : Value) (xs : List (List Nat × Sv)), w.heap[g]? = some (.cells #[.pointer (some ⟨p, 0, none⟩), .int .i64 (l.n : Nat), .int .u64 (l.epoch : Nat), .int .u64 (l.gen : Nat), .int .u64 (l.tail : Nat), .int .u64 (l.next : Nat), hv, .int .i64 (l.err : Nat)] 52 (0, 0)) ∧
    LOut enB 1 53 0 w hv xs ∧ xs.length = N ∧ (∀ k x, xs[k]? = some x → x.1 = (l.H k).getD [] ∧ Dat w S x.2 x.1) ∧ ∀ k, hv.ownBlock = some k → k ≠ g ∧ F k
  fg : F g
  fs : ∀ b, F b → S b
  lt : ∀ b, S b → b < w.heap.size
theorem RLg.turn {w w' : World} {S S' F G : Nat → Prop} {g p N : Nat} {l : Lg} (h : RLg w S F g p l N) (hm : Mod G w w') (hG : ∀ b, G b → S b) (hF : ∀ b, F b → ¬ G b) (hS : ∀ b, S' b → S b ∨ w.heap.size ≤ b) (hFS : ∀ b, F b → S' b) (hlt : ∀ b, S' b → b < w'.heap.size) : RLg w' S' F g p l N := by
  obtain ⟨hv, xs, h1, h2, h3, h4, h5⟩ := h.ex
  have kb : ∀ b, F b → w'.heap[b]? = w.heap[b]? := fun b hb => hm.block b (h.lt b (h.fs b hb)) (hF b hb)
  exact ⟨⟨hv, xs, (kb g h.fg).trans h1, h2.kept hm.size fun r hr => kb r (h5 r hr).2, h3, fun k x hx => ⟨(h4 k x hx).1, (h4 k x hx).2.turn hm hG hS⟩, h5⟩, h.fg, hFS, hlt⟩
theorem RLg.below {w w' : World} {S F : Nat → Prop} {g p N : Nat} {l : Lg} (h : RLg w S F g p l N) (hb : Below w.heap.size w w') : RLg w' S F g p l N :=
  h.turn (mod0 hb) (fun _ h => h.elim) (fun _ _ h => h) (fun _ h => .inl h) h.fs fun b hb' => Nat.lt_of_lt_of_le (h.lt b hb') hb.size
theorem RLg.sub {w : World} {S S' F : Nat → Prop} {g p N : Nat} {l : Lg} (h : RLg w S F g p l N) (hS : ∀ b, S' b → S b) (hFS : ∀ b, F b → S' b) : RLg w S' F g p l N :=
  h.turn (G := fun _ => False) (Mod.refl _ _) (fun _ h => h.elim) (fun _ _ h => h) (fun b hb => .inl (hS b hb)) hFS fun b hb => h.lt b (hS b hb)
/-- Numbers of the log turned. -/
theorem RLg.nums {w w' : World} {S F : Nat → Prop} {g p N : Nat} {l l' : Lg} (h : RLg w S F g p l N) (hH : l'.H = l.H) (hm : Mod (fun b => b = g) w w')
    (hh : ∀ hv, w.heap[g]? = some (.cells #[.pointer (some ⟨p, 0, none⟩), .int .i64 (l.n : Nat), .int .u64 (l.epoch : Nat), .int .u64 (l.gen : Nat), .int .u64 (l.tail : Nat), .int .u64 (l.next : Nat), hv, .int .i64 (l.err : Nat)] 52 (0, 0)) →
      w'.heap[g]? = some (.cells #[.pointer (some ⟨p, 0, none⟩), .int .i64 (l'.n : Nat), .int .u64 (l'.epoch : Nat), .int .u64 (l'.gen : Nat), .int .u64 (l'.tail : Nat), .int .u64 (l'.next : Nat), hv, .int .i64 (l'.err : Nat)] 52 (0, 0))) : RLg w' S F g p l' N := by
  obtain ⟨hv, xs, h1, h2, h3, h4, h5⟩ := h.ex
  have hG : ∀ b, b = g → S b := fun b hb => hb ▸ h.fs g h.fg
  refine ⟨⟨hv, xs, hh hv h1, h2.kept hm.size fun r hr => hm.block r (h.lt r (h.fs r (h5 r hr).2)) (h5 r hr).1, h3, fun k x hx => ⟨?_, (h4 k x hx).2.turn hm hG fun _ h => .inl h⟩, h5⟩, h.fg, h.fs, fun b hb => Nat.lt_of_lt_of_le (h.lt b hb) hm.size⟩
  rw [hH]
  exact (h4 k x hx).1
set_option maxRecDepth 20000 in
theorem zfree_any {w : World} {S F : Nat → Prop} {g p N : Nat} {l : Lg} (h : RLg w S F g p l N) (h1 : l.tail ≤ l.next) (h2 : l.next ≤ l.tail + l.n) (h3 : l.n ≤ 4096) (h4 : l.next < 2 ^ 63) : Calls Tryz.prog 23 #[.pointer (some ⟨g, 0, none⟩)] w
    fun e w' => e = .returned (.int .i64 (l.free : Nat)) ∧ Below w.heap.size w w' := by
  obtain ⟨hv, xs, hh, -⟩ := h.ex
  have c1 := cell_of (o := 1) hh rfl
  have c4 := cell_of (o := 4) hh rfl
  have c5 := cell_of (o := 5) hh rfl
  unfold Lg.free
  generalize l.n = n at *
  generalize l.tail = t at *
  generalize l.next = x at *
  obtain ⟨q, hq⟩ : ∃ q, x - t = q := ⟨_, rfl⟩
  have hw1 : IntKind.u64.wrap ((x : Int) - (t : Int)) = ((q : Nat) : Int) := by rw [IntWalk.u64_in _ (by omega)]; omega
  have hw2 : IntKind.i64.wrap ((q : Nat) : Int) = ((q : Nat) : Int) := IntWalk.i64_in _ (by omega)
  have hw3 : IntKind.i64.wrap ((n : Int) - ((q : Nat) : Int)) = ((n - q : Nat) : Int) := by rw [IntWalk.i64_in _ (by omega)]; omega
  rw [hq]
  have hS : w.drew.cell? ⟨g, 1, none⟩ = some (.int .i64 (n : Nat)) ∧ w.drew.cell? ⟨g, 5, none⟩ = some (.int .u64 (x : Nat)) ∧ w.drew.cell? ⟨g, 4, none⟩ = some (.int .u64 (t : Nat)) := ⟨c1, c5, c4⟩
  clear h hh h1 h2 h3 h4 hq c1 c4 c5
  go_enter Tryz.func23, Tryz.ntmps23
  go_upto_region 1 with fail
  refine wp_region_x (fun w' => w'.cell? ⟨g, 1, none⟩ = some (.int .i64 (n : Nat)) ∧ w'.cell? ⟨g, 5, none⟩ = some (.int .u64 (x : Nat)) ∧ w'.cell? ⟨g, 4, none⟩ = some (.int .u64 (t : Nat))) [(0, 1), (1, 1), (2, 1), (3, 0), (4, 1), (5, 1), (6, 1), (7, 0), (8, 1), (9, 1), (10, 1), (11, 0), (12, 1), (13, 1), (14, 1), (15, 1)] (by kernel_rfl) (by kernel_rfl) (by intro d v c a w h; cases d <;> exact h) ?_
  iterate 3 (refine x_take rfl (fun K hK => ?_); go_simp; refine hK _ ?_; clear hK K)
  refine x_read rfl hS (fun w' h => exec_load1 ⟨⟨_, Tryz.underlying3, rfl⟩⟩ rfl h.1) ?_
  iterate 3 (refine x_take rfl (fun K hK => ?_); go_simp; refine hK _ ?_; clear hK K)
  refine x_read rfl hS (fun w' h => exec_load1 ⟨⟨_, Tryz.underlying49, rfl⟩⟩ rfl h.2.1) ?_
  iterate 3 (refine x_take rfl (fun K hK => ?_); go_simp; refine hK _ ?_; clear hK K)
  refine x_read rfl hS (fun w' h => exec_load1 ⟨⟨_, Tryz.underlying49, rfl⟩⟩ rfl h.2.2) ?_
  iterate 4 (refine x_take rfl (fun K hK => ?_); go_simp; refine hK _ ?_; clear hK K)
  refine x_nil ?_
  clear hS hw1 hw2 hw3
  go_wp2
  go_ret
  exact ⟨rfl, (Below.refl _ _).drew⟩
set_option maxRecDepth 20000 in
set_option maxHeartbeats 4000000 in
theorem zhome_any {w : World} {S F FD : Nat → Prop} {g p N : Nat} {l : Lg} {d : Dsk} (h : RLg w S F g p l N) (hd : RDk w S FD p d) (hok : ∀ k b, l.H k = some b → b.length = 128) (i : Nat) (hi : i < N) (hN : 2 + l.n + N ≤ d.L.length) : Calls Tryz.prog 28 #[.pointer (some ⟨g, 0, none⟩), .int .i64 i] w
    fun e w' => (∃ s, e = .returned (sv s) ∧ Dat w S s (l.home d i)) ∧ Below w.heap.size w w' := by
  obtain ⟨hv, xs, hh, h2, h3, h4, h5⟩ := h.ex
  have hhi := hd.ok.hi
  obtain ⟨x, hx⟩ : ∃ x, xs[i]? = some x := ⟨_, List.getElem?_eq_getElem (by omega)⟩
  obtain ⟨hx1, hx2⟩ := h4 i x hx
  obtain ⟨b, off, cap, rfl, hb, hl⟩ := (h2.sl elB.len).at_ hx
  have c0 := cell_of (o := 0) hh rfl
  have c1 := cell_of (o := 1) hh rfl
  have c6 := cell_of (o := 6) hh rfl
  have hcx : w.cell? ⟨b, off + i, none⟩ = some (sv x.2) := by
    have := hl 0 (by simp [enB])
    simpa [enB] using this
  obtain ⟨xb, ⟨xa, xn, xc⟩⟩ := x
  obtain ⟨xo, xcap, hxv, q1, q2, -⟩ := id hx2.rd
  obtain ⟨rfl, rfl, rfl⟩ : xa = xo ∧ xn = xb.length ∧ xc = xcap := by simpa [sv] using hxv
  unfold maxLen at q2
  simp only [sv] at hcx hx1 hx2
  simp only at q1
  have hix : (i : Int) < (xs.length : Int) := by omega
  have hxs63 : (xs.length : Int) ≤ 4096 := by omega
  have hxb63 : (xb.length : Int) ≤ 9223372036854775807 := by omega
  cases hH : l.H i with
  | some bs =>
    have hbs := hok i bs hH
    have e1 : l.home d i = xb := by unfold Lg.home; rw [hH, hx1, hH]; rfl
    have hxl : xb.length = 128 := by rw [hx1, hH]; exact hbs
    have hpos : decide ((0 : Int) < (xb.length : Int)) = true := decide_eq_true (by omega)
    have hpos' : decide (0 < xb.length) = true := decide_eq_true (by omega)
    rw [e1]
    have HX := Lib.hid hx2
    clear h hd hok hH e1 hxl hbs hx1 hx2 hl hx h2 h3 h4 h5 hh hxv
    go_enter Tryz.func28, Tryz.ntmps28
    go_wp2
    go_ret
    exact ⟨⟨(xa, xb.length, xc), rfl, HX.out⟩, Below.refl _ _⟩
  | none =>
    have e1 : l.home d i = d.get (2 + l.n + i) := by unfold Lg.home; rw [hH]
    have hxl : xb = [] := by rw [hx1, hH]; rfl
    subst hxl
    have his := xis_any (hd.below (Below.refl _ w).drew) (2 + l.n + i) (by omega)
    rw [e1]
    generalize l.n = n at *
    have hni : ((2 + n + i : Nat) : Int) = 2 + (n : Int) + (i : Int) := by omega
    rw [hni] at his
    have hw1 : IntKind.i64.wrap (2 + (n : Int)) = 2 + (n : Int) := IntWalk.i64_in _ (by omega)
    have hw2 : IntKind.i64.wrap (2 + (n : Int) + (i : Int)) = 2 + (n : Int) + (i : Int) := IntWalk.i64_in _ (by omega)
    have hS : w.drew.cell? ⟨g, 0, none⟩ = some (.pointer (some ⟨p, 0, none⟩)) ∧ w.drew.cell? ⟨g, 1, none⟩ = some (.int .i64 (n : Nat)) := ⟨c0, c1⟩
    clear h hd hok hH e1 hx1 hx2 hl hx h2 h3 h4 h5 hh hxv hni
    go_enter Tryz.func28, Tryz.ntmps28
    go_upto_region 3 with fail
    refine wp_region_x (fun w' => w'.cell? ⟨g, 0, none⟩ = some (.pointer (some ⟨p, 0, none⟩)) ∧ w'.cell? ⟨g, 1, none⟩ = some (.int .i64 (n : Nat))) [(0, 1), (1, 1), (2, 1), (3, 0), (4, 1), (5, 1), (6, 1), (7, 0), (8, 1), (9, 1), (10, 1), (11, 2), (12, 1)] (by kernel_rfl) (by kernel_rfl) (by intro d v c a w h; cases d <;> exact h) ?_
    iterate 3 (refine x_take rfl (fun K hK => ?_); go_simp; refine hK _ ?_; clear hK K)
    refine x_read rfl hS (fun w' h => exec_load1 ⟨⟨_, Tryz.underlying28, rfl⟩⟩ rfl h.1) ?_
    iterate 3 (refine x_take rfl (fun K hK => ?_); go_simp; refine hK _ ?_; clear hK K)
    refine x_read rfl hS (fun w' h => exec_load1 ⟨⟨_, Tryz.underlying3, rfl⟩⟩ rfl h.2) ?_
    iterate 3 (refine x_take rfl (fun K hK => ?_); go_simp; refine hK _ ?_; clear hK K)
    refine x_show' rfl (fun K hK => ?_)
    go_simp
    refine his.mono ?_
    rintro e w2 ⟨⟨s, rfl, hs⟩, hw⟩
    obtain rfl := hw.symm
    obtain ⟨s1, s2, s3⟩ := s
    refine hK _ _ hS ?_
    clear hK K hw
    iterate 1 (refine x_take rfl (fun K hK => ?_); go_simp; refine hK _ ?_; clear hK K)
    refine x_nil ?_
    have HS := Lib.hid hs
    clear hs hS his hw1 hw2
    go_wp2
    go_ret
    exact ⟨⟨(s1, s2, s3), rfl, ⟨HS.out.rd, HS.out.out⟩⟩, (Below.refl _ _).drew⟩
set_option maxRecDepth 20000 in
set_option maxHeartbeats 4000000 in
theorem zsync_any {w : World} {S F FD : Nat → Prop} {g p N : Nat} {l : Lg} {d : Dsk} (h : RLg w S F g p l N) (hd : RDk w S FD p d) (hap : ∀ b, F b → ¬ FD b) (herr : l.err < 256) : Calls Tryz.prog 14 #[.pointer (some ⟨g, 0, none⟩)] w
    fun e w' => e = .returned (.int .i64 ((l.sync d).1.err : Nat)) ∧ RLg w' S F g p (l.sync d).1 N ∧ RDk w' S FD p (l.sync d).2 ∧ Mod (fun b => F b ∨ FD b) w w' := by
  have hfl := xflush_any hd
  obtain ⟨hv, xs, hh, -⟩ := h.ex
  have c0 := cell_of (o := 0) hh rfl
  have c7 := cell_of (o := 7) hh rfl
  have HL := Lib.hid h
  have HD := Lib.hid hd
  have HAP := Lib.hid hap
  clear h hd hap hh
  by_cases he : l.err = 0
  · have e1 : l.sync d = ({ l with err := d.dead }, d.flush) := by unfold Lg.sync; rw [if_neg (by simp [he])]
    have c7' : w.cell? ⟨g, 7, none⟩ = some (.int .i64 0) := by rw [c7, he]; rfl
    clear c7
    rw [e1]
    obtain ⟨D, hD⟩ : ∃ D, d.dead = D := ⟨_, rfl⟩
    rw [hD] at hfl ⊢
    clear e1 herr hD he
    go_enter Tryz.func14, Tryz.ntmps14
    go_wp2_with (first
      | (go_at_call 62; refine hfl.mono ?_; rintro e w2 ⟨rfl, hD2, hm2⟩; have hL2 := HL.out.turn hm2 HD.out.fs HAP.out (fun _ h => .inl h) HL.out.fs (fun b hb => Nat.lt_of_lt_of_le (HL.out.lt b hb) hm2.size); have HD2 := Lib.hid hD2; have HM2 := Lib.hid hm2; have HL2 := Lib.hid hL2; obtain ⟨hv2, xs2, hh2, -⟩ := hL2.ex; have d7 := cell_of (o := 7) hh2 rfl; have g7 := free_of (o := 7) hh2; have HH2 := Lib.hid hh2; clear hD2 hm2 hL2 hh2 hfl; go_frame)
      | fail)
    go_ret
    have hm3 : Mod (fun b => b = g) w2 (w2.setCell ⟨g, 7, none⟩ (.int .i64 (D : Nat))) := (Mod.refl _ _).setCell _ _ fun _ => rfl
    have hgF : F g := HL.out.fg
    refine ⟨rfl, HL2.out.nums (l' := { l with err := D }) rfl hm3 fun hv hh => (heap_setCell_at (o := 7) (v := .int .i64 (D : Nat)) hh).trans (by simp), HD2.out.turn hm3 (fun b hb => hb ▸ HL.out.fs g hgF) (fun b hb e => HAP.out g hgF (e ▸ hb)) (fun _ h => .inl h) HD2.out.fs fun b hb => Nat.lt_of_lt_of_le (HD2.out.lt b hb) hm3.size, HM2.out.trans hm3 (fun _ h => .inr h) fun x _ hx => .inl (hx ▸ hgF)⟩
  · have e1 : l.sync d = (l, d) := by unfold Lg.sync; rw [if_pos he]
    rw [e1]
    have hne : (((l.err : Nat) : Int) == 0) = false := by rw [beq_eq_false_iff_ne]; omega
    clear e1 he
    go_enter Tryz.func14, Tryz.ntmps14
    go_wp2
    go_ret
    exact ⟨rfl, HL.out, HD.out, Mod.refl _ _⟩
end Go.Proofs.YtmakpbjknklpiaaGreat
