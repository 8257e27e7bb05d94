/- The walk of the law NameUnder. -/
import Derived.Test.YtapmjchlkaicpaaDoorWh
namespace Go.Proofs.YtapmjchlkaicpaaDoor
open Go.RowKit Go.Tn Go.Tn.Names

theorem under_self (a : List UInt8) : underB a a = false := by
  unfold underB
  cases splitP a with
  | none => rfl
  | some x => simp
theorem underB_spec {a b : List UInt8} (h : underB a b = true) : ∃ x y, splitP a = some x ∧ splitP b = some y ∧ y.length < x.length ∧ x.take y.length = y := by
  unfold underB at h
  cases ha : splitP a with
  | none => rw [ha] at h; cases h
  | some x =>
    cases hb : splitP b with
    | none => rw [ha, hb] at h; cases h
    | some y =>
      rw [ha, hb] at h
      simp only [Bool.and_eq_true, decide_eq_true_eq] at h
      exact ⟨x, y, rfl, rfl, h.1, h.2⟩
theorem under_not {a b : List UInt8} (h : underB a b = true) : underB b a = false := by
  obtain ⟨x, y, ha, hb, hl, _⟩ := underB_spec h
  unfold underB
  rw [ha, hb]
  have : ¬ x.length < y.length := by omega
  simp [this]
theorem under_trans {a b c : List UInt8} (h : underB a b = true) (h2 : underB b c = true) : underB a c = true := by
  obtain ⟨x, y, ha, hb, hl, ht⟩ := underB_spec h
  obtain ⟨y', z, hb', hc, hl2, ht2⟩ := underB_spec h2
  rw [hb] at hb'
  cases hb'
  unfold underB
  rw [ha, hc]
  have h1 : z.length < x.length := by omega
  have h3 : x.take z.length = z := by
    rw [← ht, List.take_take, Nat.min_eq_left (by omega)] at ht2
    exact ht2
  simp [h1, h3]

/-- Where a walk stands that began at W. -/
structure Okay (W w : World) : Prop where
  room : Room w
  bel : Below W.heap.size W w
theorem Okay.next {W w w' : World} (h : Okay W w) (hb : Below w.heap.size w w') : Okay W w' := ⟨h.room.below (Nat.le_refl _) hb, h.bel.trans (hb.mono h.bel.size)⟩
theorem Okay.drewN {W w : World} (h : Okay W w) (n : Nat) : Okay W (w.drewN n) := ⟨h.room.drewN n, below_drewN h.bel n⟩

theorem under_ok (W w : World) (a b : ByteArray) (ha : a.size ≤ 999) (hb : b.size ≤ 999) (h : Okay W w) : Calls Tryd.prog 13 #[.string a, .string b] w
    fun e w' => e = .returned (.bool (underB (bs a) (bs b))) ∧ Okay W w' :=
  (under_any w a b h.room ha hb).mono fun _ _ ⟨h1, h2⟩ => ⟨h1, h.next h2⟩
theorem lives_ok (W w : World) (h : Okay W w) : Calls Tryd.prog 12 #[] w fun e w' => e = .returned (.bool true) ∧ Okay W w' :=
  (lives_any w h.room).mono fun _ _ ⟨h1, h2⟩ => ⟨h1, h.next h2⟩

set_option maxHeartbeats 8000000 in
set_option maxRecDepth 40000 in
theorem unders_walk (w : World) (a b c : ByteArray) (hR : Room w) (ha : a.size ≤ maxLen) (hb : b.size ≤ maxLen) (hc : c.size ≤ maxLen) : Calls Tryd.prog 4 #[.string a, .string b, .string c] w
    fun e w' => e = .returned (.bool true) ∧ Below w.heap.size w w' := by
  go_enter Tryd.func4, Tryd.ntmps4
  go_wp2_with fail
  refine (short_any w a 100 ha (by decide)).mono ?_
  rintro e w' ⟨a1, rfl, ha1, hla, hw⟩
  obtain rfl := hw.symm
  clear hw
  go_wp2_with fail
  refine (short_any w b 100 hb (by decide)).mono ?_
  rintro e w' ⟨b1, rfl, hb1, hlb, hw⟩
  obtain rfl := hw.symm
  clear hw
  go_wp2_with fail
  refine (short_any w c 100 hc (by decide)).mono ?_
  rintro e w' ⟨c1, rfl, hc1, hlc, hw⟩
  obtain rfl := hw.symm
  clear hw ha1 hb1 hc1 ha hb hc
  have hO : Okay w w := ⟨hR, Below.refl _ _⟩
  go_wp2_with fail
  refine (rSplit_any w a1 (by omega)).mono ?_
  rintro e w1 ⟨⟨v, ok, xs, rfl, hv, hA⟩, hb1⟩
  have hO1 := hO.next hb1
  go_wp2_with fail
  refine (rSplit_any w1 b1 (by omega)).mono ?_
  rintro e w2 ⟨⟨u, is, ys, rfl, hu, hB⟩, hb12⟩
  have hO2 := hO1.next hb12
  have hv2 := hv.below hb12
  clear hv hb12 hO1 hb1 hO hR
  -- what is wanted
  obtain ⟨q, hq⟩ : ∃ q, underB (bs a1) (bs b1) = q := ⟨_, rfl⟩
  have hwant : (ok && is && decide (ys.length < xs.length)) = false → q = false := fun h => by
    rw [← hq]
    rcases hA with ⟨hA, rfl⟩ | ⟨hA, rfl, rfl⟩
    · rcases hB with ⟨hB, rfl⟩ | ⟨hB, rfl, rfl⟩
      · rw [under_some hA hB]
        simp only [Bool.true_and] at h
        rw [h]
        rfl
      · exact under_none' hB
    · exact under_none hA
  have hwant' : (ok && is && decide (ys.length < xs.length)) = true → ys.length < xs.length ∧ q = decide (xs.take ys.length = ys) := fun h => by
    rw [← hq]
    rcases hA with ⟨hA, rfl⟩ | ⟨hA, rfl, rfl⟩
    · rcases hB with ⟨hB, rfl⟩ | ⟨hB, rfl, rfl⟩
      · rw [under_some hA hB]
        simp only [Bool.true_and, decide_eq_true_eq] at h
        simp [h]
      · simp at h
    · simp at h
  obtain ⟨ao, cap, rfl, hl1, hm1, hx1⟩ := hv2
  obtain ⟨ao', cap', rfl, hl2, hm2, hx2⟩ := hu
  unfold maxLen at hm1 hm2
  have HQ := Lib.hid hq
  have HW := Lib.hid hwant
  have HW' := Lib.hid hwant'
  clear hA hB hq hwant hwant'
  have hself := fun w' h => under_ok w w' a1 a1 (by omega) (by omega) h
  rw [under_self] at hself
  have hlives := fun w' h => lives_ok w w' h
  have hab := fun w' h => under_ok w w' a1 b1 (by omega) (by omega) h
  rw [HQ.out] at hab
  have hcase : (q = false ∧ (ok = false ∨ (ok = true ∧ is = false) ∨ (ok = true ∧ is = true ∧ (xs.length : Int) ≤ (ys.length : Int)))) ∨ (ok = true ∧ is = true ∧ ys.length < xs.length ∧ q = decide (xs.take ys.length = ys)) := by
    cases hk : (ok && is && decide (ys.length < xs.length)) with
    | true =>
      have := HW'.out hk
      simp only [Bool.and_eq_true, decide_eq_true_eq] at hk
      exact .inr ⟨hk.1.1, hk.1.2, this⟩
    | false =>
      refine .inl ⟨HW.out hk, ?_⟩
      cases ok with
      | false => exact .inl rfl
      | true =>
        cases is with
        | false => exact .inr (.inl ⟨rfl, rfl⟩)
        | true =>
          refine .inr (.inr ⟨rfl, rfl, ?_⟩)
          simp at hk
          omega
  rcases hcase with ⟨rfl, rfl | ⟨rfl, rfl⟩ | ⟨rfl, rfl, hle⟩⟩ | ⟨rfl, rfl, hlt, hqv⟩
  case' inr =>
    have hlt' : (ys.length : Int) < (xs.length : Int) := by omega
    have HV := Lib.hid hqv
    clear HW HW' hqv
    go_wp2
    go_loopw [11, 12] (fun wt i wr => ∃ (k : Nat) (t : Bool), k ≤ ys.length ∧ wt = .bool t ∧ i = .int .i64 k ∧ (t = true → xs.take k = ys.take k) ∧ (t = false → q = false) ∧ Okay w wr ∧ ∃ n, wr = w2.drewN n) (fun _ i _ => ys.length - (intOf i).toNat)
    case atStart => exact ⟨0, true, Nat.zero_le _, rfl, rfl, fun _ => rfl, (fun h => by cases h), hO2, 0, rfl⟩
    case round =>
      obtain ⟨k, t, hk, rfl, rfl, ht, hf, hO3, nd, rfl⟩ := hrel
      clear hO2
      cases t with
      | false =>
        obtain rfl := hf rfl
        clear ht hf
        have hO2 := hO3
        clear hO3
        go_wp2_with fail
        refine (hab _ hO2).mono ?_
        clear hO2
        rintro e w' ⟨rfl, hO2⟩
        go_wp2_with fail
        refine (hself _ hO2).mono ?_
        clear hO2
        rintro e w' ⟨rfl, hO2⟩
        go_wp2_with fail
        refine (hab _ hO2).mono ?_
        clear hO2
        rintro e w' ⟨rfl, hO2⟩
        go_wp2_with fail
        refine (hab _ hO2).mono ?_
        clear hO2
        rintro e w' ⟨rfl, hO2⟩
        go_wp2_with fail
        refine (hlives _ hO2).mono ?_
        clear hO2
        rintro e w' ⟨rfl, hO2⟩
        go_wp2
        go_ret
        exact ⟨rfl, hO2.bel⟩
      | true =>
        have htk := ht rfl
        clear ht hf
        by_cases hky : k < ys.length
        · have k1 : (k : Int) < (ys.length : Int) := by omega
          have k2 : (k : Int) < (xs.length : Int) := by omega
          have k3 : k < xs.length := by omega
          obtain ⟨b, off, rfl, _, hcx⟩ := hx1 (by omega)
          obtain ⟨b', off', rfl, _, hcy⟩ := hx2 (by omega)
          have c1 := hcx k xs[k] (List.getElem?_eq_getElem k3)
          have c2 := hcy k ys[k] (List.getElem?_eq_getElem hky)
          have e1 := List.take_succ_eq_append_getElem k3
          have e2 := List.take_succ_eq_append_getElem hky
          obtain ⟨t2, ht2⟩ : ∃ t2, (xs[k].toList == ys[k].toList) = t2 := ⟨_, rfl⟩
          have hN := Lib.hid (show (t2 = true → xs.take (k + 1) = ys.take (k + 1)) ∧ (t2 = false → q = false) by
            refine ⟨fun h => ?_, fun h => ?_⟩
            · rw [h, bs_eq, bs_eq] at ht2
              rw [e1, e2, htk, bs_inj (eq_of_beq ht2)]
            · rw [HV.out]
              simp only [decide_eq_false_iff_not]
              intro e
              have h3 : xs[k] = ys[k] := by
                have h4 : (xs.take ys.length)[k]? = ys[k]? := by rw [e]
                rw [List.getElem?_take, if_pos hky, List.getElem?_eq_getElem k3, List.getElem?_eq_getElem hky] at h4
                exact Option.some.inj h4
              rw [h3] at ht2
              rw [h] at ht2
              simp at ht2)
          clear hcx hcy e1 e2 htk hx1 hx2
          generalize xs[k] = x at *
          generalize ys[k] = y at *
          go_wp2
          go_quiet (fail)
          go_wp2
          go_roundw
          case rel => exact ⟨k + 1, t2, by omega, by first | rfl | rw [ht2], by go_num, hN.out.1, hN.out.2, (by first | exact hO3.drewN _ | (have := hO3.drewN nq; rw [World.drewN_drewN] at this; exact this)), nd + nq, by first | rfl | rw [World.drewN_drewN]⟩
          case measure => simp [intOf]; omega
        · obtain rfl : k = ys.length := by omega
          obtain rfl : q = true := by
            rw [HV.out, htk, List.take_of_length_le (Nat.le_refl _)]
            simp
          have hba := fun w' h => under_ok w w' b1 a1 (by omega) (by omega) h
          rw [under_not HQ.out] at hba
          have hbc := fun w' h => under_ok w w' b1 c1 (by omega) (by omega) h
          have hac := fun w' h => under_ok w w' a1 c1 (by omega) (by omega) h
          clear htk
          have hO2 := hO3
          clear hO3
          cases hqc : underB (bs b1) (bs c1) with
          | false =>
            rw [hqc] at hbc
            clear hac hqc
            go_wp2_with fail
            refine (hab _ hO2).mono ?_
            clear hO2
            rintro e w' ⟨rfl, hO2⟩
            go_wp2_with fail
            refine (hself _ hO2).mono ?_
            clear hO2
            rintro e w' ⟨rfl, hO2⟩
            go_wp2_with fail
            refine (hab _ hO2).mono ?_
            clear hO2
            rintro e w' ⟨rfl, hO2⟩
            go_wp2_with fail
            refine (hba _ hO2).mono ?_
            clear hO2
            rintro e w' ⟨rfl, hO2⟩
            go_wp2_with fail
            refine (hab _ hO2).mono ?_
            clear hO2
            rintro e w' ⟨rfl, hO2⟩
            go_wp2_with fail
            refine (hbc _ hO2).mono ?_
            clear hO2
            rintro e w' ⟨rfl, hO2⟩
            go_wp2_with fail
            refine (hlives _ hO2).mono ?_
            clear hO2
            rintro e w' ⟨rfl, hO2⟩
            go_wp2
            go_ret
            exact ⟨rfl, hO2.bel⟩
          | true =>
            rw [hqc] at hbc
            rw [under_trans HQ.out hqc] at hac
            clear hqc
            go_wp2_with fail
            refine (hab _ hO2).mono ?_
            clear hO2
            rintro e w' ⟨rfl, hO2⟩
            go_wp2_with fail
            refine (hself _ hO2).mono ?_
            clear hO2
            rintro e w' ⟨rfl, hO2⟩
            go_wp2_with fail
            refine (hab _ hO2).mono ?_
            clear hO2
            rintro e w' ⟨rfl, hO2⟩
            go_wp2_with fail
            refine (hba _ hO2).mono ?_
            clear hO2
            rintro e w' ⟨rfl, hO2⟩
            go_wp2_with fail
            refine (hab _ hO2).mono ?_
            clear hO2
            rintro e w' ⟨rfl, hO2⟩
            go_wp2_with fail
            refine (hbc _ hO2).mono ?_
            clear hO2
            rintro e w' ⟨rfl, hO2⟩
            go_wp2_with fail
            refine (hac _ hO2).mono ?_
            clear hO2
            rintro e w' ⟨rfl, hO2⟩
            go_wp2_with fail
            refine (hlives _ hO2).mono ?_
            clear hO2
            rintro e w' ⟨rfl, hO2⟩
            go_wp2
            go_ret
            exact ⟨rfl, hO2.bel⟩
  all_goals
    clear HW HW'
    go_wp2
    go_loopw [11, 12] (fun wt i wr => wt = .bool false ∧ i = .int .i64 0 ∧ wr = w2) (fun _ _ _ => 0)
    case atStart => first | exact ⟨rfl, rfl, rfl⟩ | exact ⟨by rw [decide_eq_false (by omega)], rfl, rfl⟩
    case round =>
      obtain ⟨rfl, rfl, rfl⟩ := hrel
      go_wp2_with fail
      refine (hab _ hO2).mono ?_
      clear hO2
      rintro e w' ⟨rfl, hO2⟩
      go_wp2_with fail
      refine (hself _ hO2).mono ?_
      clear hO2
      rintro e w' ⟨rfl, hO2⟩
      go_wp2_with fail
      refine (hab _ hO2).mono ?_
      clear hO2
      rintro e w' ⟨rfl, hO2⟩
      go_wp2_with fail
      refine (hab _ hO2).mono ?_
      clear hO2
      rintro e w' ⟨rfl, hO2⟩
      go_wp2_with fail
      refine (hlives _ hO2).mono ?_
      clear hO2
      rintro e w' ⟨rfl, hO2⟩
      go_wp2
      go_ret
      exact ⟨rfl, hO2.bel⟩
end Go.Proofs.YtapmjchlkaicpaaDoor
