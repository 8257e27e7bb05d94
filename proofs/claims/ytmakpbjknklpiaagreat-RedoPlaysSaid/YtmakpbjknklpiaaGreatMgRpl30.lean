/- The document's heads: Sector, Save, walked. -/
import Derived.Test.YtmakpbjknklpiaaGreatMgRpl29
import Derived.Test.YtmakpbjknklpiaaGreatMgRpl24
import Derived.Test.YtmakpbjknklpiaaGreatMgRpl12
/- The document's Of (a record's transaction), walked. -/
namespace Go.Proofs.YtmakpbjknklpiaaGreat
open Go.RowKit Go.Tn Go.Tn.Bt Go.Tn.Lp Go.Tn.Dk
theorem get8s_snoc (B : List Nat) (a e k : Nat) : get8s B a e (k + 1) = ((get8s B a e k).1 ++ [(getA B (get8s B a e k).2.1 (get8s B a e k).2.2 8).1], (getA B (get8s B a e k).2.1 (get8s B a e k).2.2 8).2) := rfl
theorem get8s_len (B : List Nat) (a e : Nat) : ∀ k, (get8s B a e k).1.length = k
  | 0 => rfl
  | k + 1 => by rw [get8s_snoc]; simp [get8s_len B a e k]
theorem getA_err0 (B : List Nat) (n : Nat) (h : 0 < (getA B 0 0 n).1) : (getA B 0 0 n).2.2 = 0 := by
  unfold getA at h ⊢
  split
  · rfl
  · rename_i h1
    split
    · rfl
    · rename_i h2
      rw [if_neg (by simp), if_neg h2] at h
      cases h
set_option maxRecDepth 20000 in
set_option maxHeartbeats 4000000 in
theorem zof_any (w : World) (v : Value) (B : List Nat) (h : LSl en8 1 w v B) (hlt : ∀ x ∈ B, x < 256) (hl : B.length ≤ 8192) (homes : Nat) (hh : homes ≤ 100000) :
    Calls Tryz.prog 42 #[v, .int .i64 homes] w fun e w' => Below w.heap.size w w' ∧ DecR w.heap.size w' (decB B homes) e := by
  have hof := rof_any w v B h hlt (by omega)
  obtain ⟨a0, n0, c0, rfl⟩ : ∃ a n c, v = .slice a n c := by
    obtain ⟨ao, cap, rfl, -⟩ := h
    exact ⟨_, _, _, rfl⟩
  have hh63 : (homes : Int) ≤ 100000 := by omega
  have HL := Lib.hid hl
  clear h hlt hl
  go_enter Tryz.func42, Tryz.ntmps42
  go_upto_region 2 with (first
    | (go_at_call 77; refine hof.mono ?_; rintro e w1 ⟨v1, rfl, hO1, hb1⟩; obtain ⟨a1, n1, c1, rfl⟩ := LOut.shape hO1; have HO1 := Lib.hid hO1; have HB1 := Lib.hid hb1; clear hO1 hb1 hof; go_frame)
    | fail)
  obtain ⟨rb, hrb⟩ : ∃ rb, w1.heap.size = rb := ⟨_, rfl⟩
  have hR : RBt (w1.alloc (.cells #[.slice a1 n1 c1, .int .i64 0] 134)) rb B 0 0 := by
    have hba : Below w1.heap.size w1 (w1.alloc (.cells #[.slice a1 n1 c1, .int .i64 0] 134)) := (Below.refl _ _).alloc (Nat.le_refl _) _
    refine ⟨⟨a1, n1, c1, ?_, ?_, fun k hk => ?_⟩, by have := HL.out; omega, by decide, Nat.zero_le _⟩
    · rw [← hrb]
      exact heap_alloc_at
    · rw [List.drop_zero]
      exact (HO1.out.sl el8.len).below hba
    · have := HO1.out.lt hk
      omega
  have hb2 : Below w.heap.size w (w1.alloc (.cells #[.slice a1 n1 c1, .int .i64 0] 134)) := HB1.out.alloc HB1.out.size _
  have hrw : w.heap.size ≤ rb := by rw [← hrb]; exact HB1.out.size
  rw [hrb]
  clear hrb HO1 HB1
  generalize w1.alloc (.cells #[.slice a1 n1 c1, .int .i64 0] 134) = w2 at *
  have hg8 := rbget_any hR 8 (by decide)
  rw [show ((8 : Nat) : Int) = 8 from rfl] at hg8
  obtain ⟨n, hn⟩ : ∃ n, (getA B 0 0 8).1 = n := ⟨_, rfl⟩
  have hn256 : n < 256 := by rw [← hn]; exact getA_lt B 0 0 8
  have hE0 : 0 < n → (getA B 0 0 8).2.2 = 0 := fun h => getA_err0 B 8 (by rw [hn]; exact h)
  have hdec : decB B homes = match decGo B (getA B 0 0 8).2.1 (getA B 0 0 8).2.2 n with
    | none => none
    | some (l, a, e) => if endR B a e = 0 ∧ transB l homes = true then some l else none := by
    unfold decB
    rw [hn]
    cases decGo B (getA B 0 0 8).2.1 (getA B 0 0 8).2.2 n <;> rfl
  obtain ⟨A0, hA0⟩ : ∃ x, (getA B 0 0 8).2.1 = x := ⟨_, rfl⟩
  obtain ⟨E0, hE0e⟩ : ∃ x, (getA B 0 0 8).2.2 = x := ⟨_, rfl⟩
  rw [hn, hA0, hE0e] at hg8
  rw [hE0e] at hE0
  rw [hA0, hE0e] at hdec
  have hbad0 : E0 ≠ 0 → decB B homes = none := fun h => by
    have hn0 : n = 0 := by
      rcases Nat.eq_zero_or_pos n with h0 | h0
      · exact h0
      · exact absurd (hE0 h0) h
    rw [hdec, hn0]
    simp only [decGo]
    unfold endR
    rw [if_pos h, if_neg (fun e => h e.1)]
  have hn63 : (n : Int) < 256 := by omega
  have HDEC := Lib.hid hdec
  have HB2 := Lib.hid hb2
  clear hdec hb2 hn hA0 hE0e hR
  go_upto_region 3 with (first
    | (go_at_call 78; refine hg8.mono ?_; rintro e w3 ⟨rfl, hR3, hm3⟩; have HR3 := Lib.hid hR3; have HM3 := Lib.hid hm3; clear hR3 hm3 hg8; go_frame)
    | fail)
  have hb3 : Below w.heap.size w w3 := HB2.out.trans (HM3.out.below HB2.out.size fun x hx e => by omega)
  have HB3 := Lib.hid hb3
  have HE0 := Lib.hid hE0
  have HBAD := Lib.hid hbad0
  have hRlt := HR3.out.lt
  clear hb3 hE0 hbad0
  go_wp2_with fail
  go_loopw [8, 9, 10, 11, 12] (fun ov iv _ _ _ wi => ∃ (k a er : Nat) (l : List Pt) (xs : List (Pt × Sv)), k ≤ n ∧ iv = .int .i64 k ∧ RBt wi rb B a er ∧ (er = 0 → decGo B A0 E0 k = some (l, a, 0)) ∧ (er ≠ 0 → decB B homes = none) ∧ l.length = k ∧ (∀ q ∈ l, ∀ x ∈ q.2, x < 256) ∧ xs.map (·.1) = l ∧ LOut enPt 2 96 (rb + 1) wi ov xs ∧ DatG (rb + 1) wi ov xs ∧ Below w.heap.size w wi) (fun _ iv _ _ _ _ => n - (intOf iv).toNat)
  case atStart =>
    refine ⟨0, A0, E0, [], [], Nat.zero_le _, rfl, HR3.out, fun e => ?_, HBAD.out, rfl, (fun q hq => by cases hq), rfl, LOut.nil hRlt, (fun x hx => by cases hx), HB3.out⟩
    rw [e]
    rfl
  case round =>
    obtain ⟨k, a, er, l, xs, hk, rfl, hR, hok, hbad, hll, hlq, hxs, hO, hD, hb⟩ := hrel
    obtain ⟨wo, hwo⟩ : ∃ wo, wo = wr := ⟨_, rfl⟩
    subst hwo
    obtain ⟨o1, o2, o3, rfl⟩ := hO.shape
    have hxl : xs.length = k := by rw [← hll, ← hxs]; simp
    have hRx := hR.ex
    obtain ⟨ra, rn, rc, hRh, -, -⟩ := hRx
    have q1 := cell_of (o := 1) hRh rfl
    clear hRh
    have hokn : k ≤ n := hk
    have HOK := Lib.hid hok
    have HBD := Lib.hid hbad
    have HLQ := Lib.hid hlq
    have HXS := Lib.hid hxs
    have HO := Lib.hid hO
    have HD := Lib.hid hD
    have HB := Lib.hid hb
    have HLL := Lib.hid hll
    have her := hR.err
    have hale := hR.le
    have HR := Lib.hid hR
    clear hok hbad hlq hxs hO hD hb hll hR
    by_cases hgo : k < n ∧ er = 0
    · obtain ⟨hkn, rfl⟩ := hgo
      have hdk : decide (k < n) = true := by simp [hkn]
      simp only [Int.natCast_zero] at q1
      have hg12 := rbget_any HR.out 12 (by decide)
      rw [show ((12 : Nat) : Int) = 12 from rfl] at hg12
      have hx12 : (getA B a 0 12).1 < 4096 := Nat.lt_of_lt_of_le (getA_lt B a 0 12) (by decide)
      have hdn : decGo B A0 E0 (k + 1) = if (getPut B a 0).2.2 ≠ 0 then none else some (l ++ [(getPut B a 0).1], (getPut B a 0).2) := by simp only [decGo, HOK.out rfl]
      have hgp : getPut B a 0 = (((((getA B a 0 12).1 : Nat) : Int), (get8s B (getA B a 0 12).2.1 (getA B a 0 12).2.2 128).1), (get8s B (getA B a 0 12).2.1 (getA B a 0 12).2.2 128).2) := rfl
      rw [hgp] at hdn
      obtain ⟨x12, hx12e⟩ : ∃ x, (getA B a 0 12).1 = x := ⟨_, rfl⟩
      obtain ⟨a12, ha12e⟩ : ∃ x, (getA B a 0 12).2.1 = x := ⟨_, rfl⟩
      obtain ⟨e12, he12e⟩ : ∃ x, (getA B a 0 12).2.2 = x := ⟨_, rfl⟩
      rw [hx12e] at hx12
      rw [hx12e, ha12e, he12e] at hg12 hdn
      have hx63 : (x12 : Int) < 4096 := by omega
      have HDN := Lib.hid hdn
      have HG12 := Lib.hid hg12
      clear hdn hgp hx12e ha12e he12e hg12
      go_upto_region 8 with (first
        | (go_at_call 78; refine HG12.out.mono ?_; rintro e w5 ⟨rfl, hR5, hm5⟩; have HR5 := Lib.hid hR5; have HM5 := Lib.hid hm5; clear hR5 hm5; go_frame)
        | ((with_reducible refine wpList_storeA_new (aggPt _ _) rfl (onePt _ _ _ _) ?_ ?_ ?_); rfl; rfl; go_frame)
        | fail)
      clear q1
      obtain ⟨bp, hbp⟩ : ∃ bp, w5.heap.size = bp := ⟨_, rfl⟩
      have hrbp : rb < bp := by rw [← hbp]; exact HR5.out.lt
      have hwbp : w.heap.size ≤ bp := by omega
      have hB5 : Below w.heap.size w w5 := HB.out.trans (HM5.out.below HB.out.size fun x hx e => by omega)
      have hal : Below w5.heap.size w5 (w5.alloc (.cells #[.int .i64 ((x12 : Nat) : Int), .slice none 0 0] 96)) := (Below.refl _ _).alloc (Nat.le_refl _) _
      have hB7 : Below w.heap.size w (w5.alloc (.cells #[.int .i64 ((x12 : Nat) : Int), .slice none 0 0] 96)) := hB5.trans (hal.mono hB5.size)
      have hR7 := HR5.out.below hal
      have hO5 : LOut enPt 2 96 (rb + 1) w5 (.slice o1 o2 o3) xs := HO.out.kept HM5.out.size fun r hr => HM5.out.block r (HO.out.lt hr) fun e => by have := HO.out.lo r hr; omega
      have hD5 : DatG (rb + 1) w5 (.slice o1 o2 o3) xs := HD.out.mod HM5.out fun b h1 _ e => by omega
      have hP7 : (w5.alloc (.cells #[.int .i64 ((x12 : Nat) : Int), .slice none 0 0] 96)).heap[bp]? = some (.cells #[.int .i64 ((x12 : Nat) : Int), .slice none 0 0] 96 (0, 0)) := by
        rw [← hbp]
        exact heap_alloc_at
      have hz7 : (w5.alloc (.cells #[.int .i64 ((x12 : Nat) : Int), .slice none 0 0] 96)).heap.size = bp + 1 := by simp [hbp]
      have hO7 := hO5.below hal
      have hD7 := hD5.below hal
      have hol : ∀ r, (Value.slice o1 o2 o3).ownBlock = some r → r < bp := fun r hr => by rw [← hbp]; exact hO5.lt hr
      have hdl : ∀ x ∈ xs, ∀ r, (sv x.2).ownBlock = some r → r < bp := fun x hx r hr => by rw [← hbp]; exact ((hD5 x hx).2 r hr).2.1
      rw [hbp]
      have HR7 := Lib.hid hR7
      have HB7 := Lib.hid hB7
      have HO7 := Lib.hid hO7
      have HD7 := Lib.hid hD7
      have HP7 := Lib.hid hP7
      have HZ7 := Lib.hid hz7
      have HOL := Lib.hid hol
      have HDL := Lib.hid hdl
      clear hR7 hB7 hO7 hD7 hP7 hz7 hol hdl hbp hB5 hal hO5 hD5 HR5 HM5 HR HO HD HB
      generalize w5.alloc (.cells #[.int .i64 ((x12 : Nat) : Int), .slice none 0 0] 96) = w7 at *
      go_wp2_with fail
      go_loopw [11, 12] (fun jv _ wi => ∃ (j : Nat) (da : Option Addr) (dn dc : Nat), j ≤ 128 ∧ jv = .int .i64 j ∧ RBt wi rb B (get8s B a12 e12 j).2.1 (get8s B a12 e12 j).2.2 ∧ wi.heap[bp]? = some (.cells #[.int .i64 ((x12 : Nat) : Int), .slice da dn dc] 96 (0, 0)) ∧ LOut en8 1 5 (bp + 1) wi (.slice da dn dc) (get8s B a12 e12 j).1 ∧ (∀ x ∈ (get8s B a12 e12 j).1, x < 256) ∧ Mod (fun b => b = rb ∨ bp ≤ b) w7 wi) (fun jv _ _ => 128 - (intOf jv).toNat)
      case atStart => exact ⟨0, none, 0, 0, Nat.zero_le _, rfl, HR7.out, HP7.out, LOut.nil (by have := HZ7.out; omega), (fun x hx => by cases hx), Mod.refl _ _⟩
      case round =>
        obtain ⟨j, da, dn, dc, hj, rfl, hRj, hPj, hLj, hlj, hMj⟩ := hrel
        have p0 := cell_of (o := 0) hPj rfl
        have p1 := cell_of (o := 1) hPj rfl
        have hsn := get8s_snoc B a12 e12 j
        have hglen := get8s_len B a12 e12 j
        by_cases hjl : j < 128
        · have hdj : decide ((j : Int) < 128) = true := decide_eq_true (by omega)
          have hj63 : (j : Int) < 128 := by omega
          obtain ⟨L, hLe⟩ : ∃ x, (get8s B a12 e12 j).1 = x := ⟨_, rfl⟩
          obtain ⟨a', ha'⟩ : ∃ x, (get8s B a12 e12 j).2.1 = x := ⟨_, rfl⟩
          obtain ⟨e', he'⟩ : ∃ x, (get8s B a12 e12 j).2.2 = x := ⟨_, rfl⟩
          rw [hLe] at hsn hglen hLj hlj
          rw [ha', he'] at hsn hRj
          have hg := rbget_any hRj 8 (by decide)
          rw [show ((8 : Nat) : Int) = 8 from rfl] at hg
          have hy := getA_lt B a' e' 8
          obtain ⟨y, hye⟩ : ∃ x, (getA B a' e' 8).1 = x := ⟨_, rfl⟩
          obtain ⟨a'', ha''⟩ : ∃ x, (getA B a' e' 8).2.1 = x := ⟨_, rfl⟩
          obtain ⟨e'', he''⟩ : ∃ x, (getA B a' e' 8).2.2 = x := ⟨_, rfl⟩
          have hgg : (getA B a' e' 8).2 = (a'', e'') := by rw [← ha'', ← he'']
          rw [hgg] at hsn
          rw [hye] at hy hg hsn
          rw [ha'', he''] at hg
          have hy256 : y < 256 := hy
          have hyi : (y : Int) < 256 := by omega
          have hyw : IntKind.u8.wrap ((y : Nat) : Int) = ((y : Nat) : Int) := IntWalk.u8_in _ (by omega)
          have hml : L.length ≤ 1000000000 := by omega
          have HSN := Lib.hid hsn
          have HPJ := Lib.hid hPj
          have HLJ := Lib.hid hLj
          have HLL' := Lib.hid hlj
          have HMJ := Lib.hid hMj
          have hbpl := lt_of_block hPj
          clear hsn hLe ha' he' hye ha'' he'' hgg hPj hLj hlj hMj hRj hglen hy
          go_upto_region 12 with fail
          clear p0
          go_wp2_with (first
            | (go_at_call 78; refine hg.mono ?_; rintro e w8 ⟨rfl, hR8, hm8⟩; have HR8 := Lib.hid hR8; have HM8 := Lib.hid hm8; clear hR8 hm8 hg; go_frame)
            | ((with_reducible refine wpList_append1Y el8 (HLJ.out.kept HM8.out.size fun r hr => HM8.out.block r (HLJ.out.lt hr) fun e => (by have := HLJ.out.lo r hr; omega)) y hml ?_ ?_ ?_ ?_); rfl; rfl; rfl; (intro v9 w9 hO9 hm9 hv9; obtain ⟨a9, n9, c9, rfl⟩ := LOut.shape hO9; have HH9 := Lib.hid (hm9.heap (HM8.out.heap HPJ.out (fun e => (by omega))) (fun e => (by have := HLJ.out.lo bp e; omega))); have d1 := cell_of (o := 1) HH9.out rfl; have g1 := free_of (o := 1) HH9.out; have HO9 := Lib.hid hO9; have HM9 := Lib.hid hm9; have HV9 := Lib.hid hv9; clear hO9 hm9 hv9 p1); go_frame)
            | fail)
          have hh := heap_setCell_at (o := 1) (v := .slice a9 n9 c9) HH9.out
          have hmA : Mod (fun b => b = bp) w9 (w9.setCell ⟨bp, 1, none⟩ (.slice a9 n9 c9)) := (Mod.refl _ _).setCell _ _ fun _ => rfl
          have HHH := Lib.hid hh
          have HMA := Lib.hid hmA
          clear hh hmA
          go_roundw
          case rel =>
            have hlo := HLJ.out.lo
            have hlo9 := HO9.out.lo
            refine ⟨j + 1, a9, n9, c9, by omega, by go_num, ?_, HHH.out, ?_, ?_, ?_⟩
            · rw [HSN.out]
              exact (HR8.out.mod HM9.out fun b hb => by have := hlo b hb; omega).mod HMA.out fun b hb => by omega
            · rw [HSN.out]
              exact HO9.out.kept HMA.out.size fun r hr => HMA.out.block r (HO9.out.lt hr) fun e => by have := hlo9 r hr; omega
            · rw [HSN.out]
              intro x hx
              rcases List.mem_append.1 hx with hx | hx
              · exact HLL'.out x hx
              · rw [List.mem_singleton.1 hx]
                exact hy256
            · refine ((HMJ.out.trans (T := fun b => b = rb ∨ bp ≤ b) HM8.out (fun _ h => h) fun x _ h => .inl h).trans (T := fun b => b = rb ∨ bp ≤ b) HM9.out (fun _ h => h) fun x _ h => .inr (by have := hlo x h; omega)).trans HMA.out (fun _ h => h) fun x _ h => .inr (by omega)
          case measure => simp [intOf]; omega
        · obtain rfl : j = 128 := by omega
          have hdj : decide ((128 : Int) < 128) = false := by decide
          have hlt128 : (get8s B a12 e12 128).1.length = 128 := hglen
          obtain ⟨L, hLe⟩ : ∃ x, (get8s B a12 e12 128).1 = x := ⟨_, rfl⟩
          obtain ⟨a', ha'⟩ : ∃ x, (get8s B a12 e12 128).2.1 = x := ⟨_, rfl⟩
          obtain ⟨e', he'⟩ : ∃ x, (get8s B a12 e12 128).2.2 = x := ⟨_, rfl⟩
          rw [hLe] at hLj hlj
          rw [ha', he'] at hRj
          have hdn := HDN.out
          have hpair : (get8s B a12 e12 128).2 = (a', e') := by rw [← ha', ← he']
          rw [hLe, hpair] at hdn
          clear hpair
          have hxle : xs.length ≤ 1000000000 := by omega
          have hOj : LOut enPt 2 96 (rb + 1) wr (.slice o1 o2 o3) xs := HO7.out.kept hMj.size fun r hr => hMj.block r (HO7.out.lt hr) fun e => by have := HO7.out.lo r hr; have := HOL.out r hr; omega
          have hDj : DatG (rb + 1) wr (.slice o1 o2 o3) xs := fun x hx => ⟨(HD7.out x hx).1.mod hMj fun r hr e => (by have := ((HD7.out x hx).2 r hr).1; have := HDL.out x hx r hr; omega), fun r hr => ⟨((HD7.out x hx).2 r hr).1, Nat.lt_of_lt_of_le ((HD7.out x hx).2 r hr).2.1 hMj.size, ((HD7.out x hx).2 r hr).2.2⟩⟩
          have hbpl := lt_of_block hPj
          have HDN' := Lib.hid hdn
          have HPJ := Lib.hid hPj
          have HLJ := Lib.hid hLj
          have HLL' := Lib.hid hlj
          have HMJ := Lib.hid hMj
          have HRJ := Lib.hid hRj
          have HOJ := Lib.hid hOj
          have HDJ := Lib.hid hDj
          have HEE := Lib.hid he'
          have HBJ : Hid (Below w.heap.size w wr) := Lib.hid (HB7.out.trans (hMj.below HB7.out.size fun x hx e => by rcases e with e | e <;> omega))
          clear hsn hLe ha' hdn hPj hLj hlj hMj hRj hOj hDj hglen hlt128 p0 p1 he'
          go_wp2_with (first
            | ((with_reducible refine wpList_loadA (aggPt (x12 : Nat) (.slice da dn dc)) (lies_of HPJ.out) ?_ ?_); rfl; go_frame)
            | ((with_reducible refine wpList_append1Y elPt HOJ.out (((x12 : Nat), L), (da, dn, dc)) hxle ?_ ?_ ?_ ?_); rfl; rfl; rfl; (intro v9 w9 hO9 hm9 hv9; obtain ⟨a9, n9, c9, rfl⟩ := LOut.shape hO9; have HO9 := Lib.hid hO9; have HM9 := Lib.hid hm9; have HV9 := Lib.hid hv9; clear hO9 hm9 hv9); go_frame)
            | fail)
          go_roundw
          case rel =>
            have hlo := HOJ.out.lo
            have hdlo := HLJ.out.lo
            have hxs' := HXS.out
            have hoo : ∀ r, (Value.slice da dn dc).ownBlock = some r → ¬ (Value.slice o1 o2 o3).ownBlock = some r := fun r h1 h2 => by have := hdlo r h1; have := HOL.out r h2; omega
            refine ⟨k + 1, a', e', l ++ [((((x12 : Nat) : Int), L) : Pt)], xs ++ [((((((x12 : Nat) : Int), L) : Pt), ((da, dn, dc) : Sv)))], by omega, by go_num, HRJ.out.mod HM9.out fun b hb => (by have := hlo b hb; omega), fun e => ?_, fun e => ?_, by simp [HLL.out], fun q hq => ?_, by rw [List.map_append, hxs']; rfl, HO9.out, DatG.push (x := ((((((x12 : Nat) : Int), L) : Pt), ((da, dn, dc) : Sv)))) HDJ.out HOJ.out (HLJ.out.sl el8.len) (fun r hr => ⟨by have := hdlo r hr; omega, HLJ.out.lt hr, hoo r hr⟩) HM9.out HV9.out, HBJ.out.trans (HM9.out.below HBJ.out.size fun x hx h => by have := hlo x h; omega)⟩
            · rw [HDN'.out, if_neg (fun h => h e)]
              rw [e]
            · have h1 : decGo B A0 E0 (k + 1) = none := by rw [HDN'.out]; exact if_pos e
              have h2 := decGo_none h1 (n - (k + 1))
              rw [show k + 1 + (n - (k + 1)) = n by omega] at h2
              rw [HDEC.out, h2]
            · rcases List.mem_append.1 hq with hq | hq
              · exact HLQ.out q hq
              · rw [List.mem_singleton.1 hq]
                exact HLL'.out
          case measure => simp [intOf]; omega
    · have HPTS : Hid (PtsI wo (.slice o1 o2 o3) l) := Lib.hid ⟨xs, HXS.out, HO.out.sl elPt.len, fun x hx => (HD.out x hx).1⟩
      have HOUT : Hid (PtsO w.heap.size wo (.slice o1 o2 o3) l) := Lib.hid ⟨xs, HXS.out, HO.out.mono (by omega), fun x hx => ⟨(HD.out x hx).1, fun r hr => ⟨by have := ((HD.out x hx).2 r hr).1; omega, ((HD.out x hx).2 r hr).2⟩⟩⟩
      have hend := rbend_any HR.out
      by_cases her0 : er = 0
      · obtain rfl : k = n := by omega
        subst her0
        have hdk : decide (k < k) = false := by simp
        obtain ⟨E, hEe⟩ : ∃ E, endR B a 0 = E := ⟨_, rfl⟩
        rw [hEe] at hend
        have hdecB : decB B homes = if E = 0 ∧ transB l homes = true then some l else none := by
          rw [HDEC.out, HOK.out rfl]
          simp only [hEe]
        have HDB := Lib.hid hdecB
        clear hdecB hEe hgo
        by_cases hE : E = 0
        · subst hE
          have his := ris_any wo _ l HPTS.out homes hh
          obtain ⟨T, hT⟩ : ∃ T, transB l homes = T := ⟨_, rfl⟩
          rw [hT] at his
          have HT := Lib.hid hT
          clear hT
          go_wp2_with (first
            | (go_at_call 79; refine hend.mono ?_; rintro e w5 ⟨rfl, hw⟩; obtain rfl := hw.symm; clear hw hend; go_frame)
            | (go_at_call 56; refine his.mono ?_; rintro e w6 ⟨rfl, hb6⟩; have HB6 := Lib.hid hb6; clear hb6 his; go_frame)
            | fail)
          go_ret2
          refine ⟨HB.out.trans (HB6.out.mono HB.out.size), ?_⟩
          rw [HDB.out, HT.out]
          cases T with
          | true =>
            rw [if_pos (by simp)]
            obtain ⟨xs', e1, e2, e3⟩ := HOUT.out
            exact ⟨_, rfl, xs', e1, e2.below HB6.out, e3.below HB6.out⟩
          | false =>
            rw [if_neg (by simp)]
            exact ⟨_, _, _, rfl⟩
        · have hE0 : ((E : Int) == 0) = false := by rw [beq_eq_false_iff_ne]; omega
          have HEN := Lib.hid hE
          clear hE
          go_wp2_with (first
            | (go_at_call 79; refine hend.mono ?_; rintro e w5 ⟨rfl, hw⟩; obtain rfl := hw.symm; clear hw hend; go_frame)
            | fail)
          go_ret2
          refine ⟨HB.out, ?_⟩
          rw [HDB.out, if_neg (fun h => HEN.out h.1)]
          exact ⟨_, _, _, rfl⟩
      · have hen : endR B a er = er := by unfold endR; rw [if_pos her0]
        rw [hen] at hend
        have he0 : ((er : Int) == 0) = false := by rw [beq_eq_false_iff_ne]; omega
        have HDB := Lib.hid (HBD.out her0)
        clear hen her0 hgo
        by_cases hkn : k < n
        · have hdk : decide (k < n) = true := by simp [hkn]
          go_wp2_with (first
            | (go_at_call 79; refine hend.mono ?_; rintro e w5 ⟨rfl, hw⟩; obtain rfl := hw.symm; clear hw hend; go_frame)
            | fail)
          go_ret2
          refine ⟨HB.out, ?_⟩
          rw [HDB.out]
          exact ⟨_, _, _, rfl⟩
        · have hdk : decide (k < n) = false := by simp [hkn]
          go_wp2_with (first
            | (go_at_call 79; refine hend.mono ?_; rintro e w5 ⟨rfl, hw⟩; obtain rfl := hw.symm; clear hw hend; go_frame)
            | fail)
          go_ret2
          refine ⟨HB.out, ?_⟩
          rw [HDB.out]
          exact ⟨_, _, _, rfl⟩
end Go.Proofs.YtmakpbjknklpiaaGreat

/- The document's heads: Sector, Save, walked. -/
namespace Go.Proofs.YtmakpbjknklpiaaGreat
open Go.RowKit Go.Tn Go.Tn.Bt Go.Tn.Lp Go.Tn.Dk
set_option maxRecDepth 20000 in
set_option maxHeartbeats 4000000 in
theorem hxsector_any (w : World) (ep g t f : Nat) (he : ep ≤ 16777215) (hg : g ≤ 1099511627775) (ht : t < 2 ^ 40) (hf : f < 2 ^ 24) : Calls Tryz.prog 96 #[.int .u64 ep, .agg #[.int .u64 g, .int .u64 t, .int .u64 f]] w
    fun e w' => ∃ v', e = .returned (.tuple #[v', .bool true]) ∧ LOut en8 1 5 w.heap.size w' v' (sealB (headPc ep ⟨g, t, f⟩)) ∧ Below w.heap.size w w' := by
  have hb1 : Below w.heap.size w (w.alloc (.cells #[.int .u64 g, .int .u64 t, .int .u64 f] 82)) := (Below.refl _ _).alloc (Nat.le_refl _) _
  have hH : (w.alloc (.cells #[.int .u64 g, .int .u64 t, .int .u64 f] 82)).heap[w.heap.size]? = some (.cells #[.int .u64 g, .int .u64 t, .int .u64 f] 82 (0, 0)) := heap_alloc_at
  have hz1 : w.heap.size < (w.alloc (.cells #[.int .u64 g, .int .u64 t, .int .u64 f] 82)).heap.size := by simp
  have h40 := fun W => yfits40 W t ht
  have h24 := fun W => yfits24 W f hf
  have ht64 : t < 2 ^ 64 := by omega
  have hf64 : f < 2 ^ 64 := by omega
  have q0 := cell_of (o := 0) hH rfl
  have q1 := cell_of (o := 1) hH rfl
  have q2 := cell_of (o := 2) hH rfl
  have HB1 := Lib.hid hb1
  have H40 := Lib.hid h40
  have H24 := Lib.hid h24
  have HE := Lib.hid he
  have HG := Lib.hid hg
  clear hb1 hH h40 h24 ht hf he hg
  generalize hw1 : w.alloc (.cells #[.int .u64 g, .int .u64 t, .int .u64 f] 82) = w1 at *
  go_enter Tryz.func96, Tryz.ntmps96
  go_upto_region 1 with fail
  simp only [hw1] at *
  clear hw1
  obtain ⟨px, hpx⟩ : ∃ px, w.heap.size = px := ⟨_, rfl⟩
  have HPX := Lib.hid hpx
  rw [hpx] at hz1 q0 q1 q2 ⊢
  clear hpx
  go_upto_region 3 with (first
    | (go_at_call 113; with_reducible refine (H40.out _).mono ?_; rintro e w2 ⟨rfl, hw⟩; obtain rfl := hw.symm; clear hw; go_frame)
    | (go_at_call 113; with_reducible refine (H24.out _).mono ?_; rintro e w2 ⟨rfl, hw⟩; obtain rfl := hw.symm; clear hw; go_frame)
    | fail)
  have hfr : ∀ W, Below w1.heap.size w1 W → W.cell? ⟨px, 1, none⟩ = some (.int .u64 (t : Nat)) ∧ W.cell? ⟨px, 2, none⟩ = some (.int .u64 (f : Nat)) := fun W hW => ⟨(hW.cell (p := ⟨px, 1, none⟩) hz1).trans q1, (hW.cell (p := ⟨px, 2, none⟩) hz1).trans q2⟩
  have hd0 : Below w1.heap.size w1 w1.drew := (Below.refl _ _).drew
  have hS := hfr _ hd0
  refine wp_region_x (fun w' => w'.cell? ⟨px, 1, none⟩ = some (.int .u64 (t : Nat)) ∧ w'.cell? ⟨px, 2, none⟩ = some (.int .u64 (f : Nat))) [(0, 1), (1, 0), (3, 1), (4, 0), (2, 2), (5, 2), (6, 2), (7, 1)] (by kernel_rfl) (by kernel_rfl) (by intro d v c a w h; cases d <;> exact h) ?_
  iterate 1 (refine x_take rfl (fun K hK => ?_); go_simp; refine hK _ ?_; clear hK K)
  refine x_read rfl hS (fun w' h => exec_load1 ⟨⟨_, Tryz.underlying49, rfl⟩⟩ rfl h.1) ?_
  iterate 1 (refine x_take rfl (fun K hK => ?_); go_simp; refine hK _ ?_; clear hK K)
  refine x_read rfl hS (fun w' h => exec_load1 ⟨⟨_, Tryz.underlying49, rfl⟩⟩ rfl h.2) ?_
  refine x_show' rfl (fun K hK => ?_)
  go_simp
  refine (rbits_any _ t 40 ht64 (by decide)).mono ?_
  rintro e w2 ⟨v2, rfl, hO2, hb2⟩
  obtain ⟨a2, n2, c2, rfl⟩ := LOut.shape hO2
  have hb12 : Below w1.heap.size w1 w2 := hd0.trans hb2
  refine hK _ _ (hfr _ hb12) ?_
  clear hK K hS
  refine x_show' rfl (fun K hK => ?_)
  go_simp
  refine (rbits_any _ f 24 hf64 (by decide)).mono ?_
  rintro e w3 ⟨v3, rfl, hO3, hb3⟩
  obtain ⟨a3, n3, c3, rfl⟩ := LOut.shape hO3
  have hb13 : Below w1.heap.size w1 w3 := hb12.trans (hb3.mono hb12.size)
  refine hK _ _ (hfr _ hb13) ?_
  clear hK K
  obtain ⟨v4, w4, hr, hO4, hm4, -⟩ := exec_appendMX (P := Tryz.prog) el8 (ty := 53) (hO2.below hb3) (hO3.sl el8.len) (by rw [b01_len, b01_len, bitsN_len, bitsN_len]; decide)
  obtain ⟨a4, n4, c4, rfl⟩ := LOut.shape hO4
  rw [← b01_append] at hO4
  have hb14 : Below w1.heap.size w1 w4 := hb13.trans (hm4.below hb13.size fun x hx e => by have := hO2.lo x e; have h9 : w1.heap.size ≤ x := this; omega)
  refine x_show rfl (hr _ _ _ _ _ _ _ rfl rfl) (hfr _ hb14) ?_
  iterate 1 (refine x_take rfl (fun K hK => ?_); go_simp; refine hK _ ?_; clear hK K)
  refine x_nil ?_
  have hby := rbytes_any w4.drew _ _ ((hO4.sl el8.len).below (Below.refl _ w4).drew) (by rw [List.length_append, bitsN_len, bitsN_len]; decide)
  have hpk : pack (bitsN t 40 ++ bitsN f 24) = headD t f := rfl
  rw [hpk] at hby
  have HB14 := Lib.hid hb14
  have hq0 : w4.drew.cell? ⟨px, 0, none⟩ = some (.int .u64 (g : Nat)) := (hb14.cell (p := ⟨px, 0, none⟩) hz1).trans q0
  clear hr hO4 hm4 hO2 hO3 hb2 hb3 hb12 hb13 hb14 hpk q0 q1 q2 hfr hd0
  go_upto_region 4 with fail
  have hpx4 : px < w4.heap.size := Nat.lt_of_lt_of_le hz1 HB14.out.size
  refine wp_region_x (fun w' => w'.cell? ⟨px, 0, none⟩ = some (.int .u64 (g : Nat))) [(0, 1), (1, 1), (2, 0), (3, 1), (4, 2), (5, 1), (6, 2), (7, 1), (8, 1), (9, 1), (10, 1), (11, 1)] (by kernel_rfl) (by kernel_rfl) (by intro d v c a w h; cases d <;> exact h) ?_
  iterate 2 (refine x_take rfl (fun K hK => ?_); go_simp; refine hK _ ?_; clear hK K)
  refine x_read rfl hq0 (fun w' h => exec_load1 ⟨⟨_, Tryz.underlying49, rfl⟩⟩ rfl h) ?_
  iterate 1 (refine x_take rfl (fun K hK => ?_); go_simp; refine hK _ ?_; clear hK K)
  refine x_show' rfl (fun K hK => ?_)
  go_simp
  refine hby.mono ?_
  rintro e w5 ⟨v5, rfl, hO5, hb5⟩
  obtain ⟨a5, n5, c5, rfl⟩ := LOut.shape hO5
  have hb45 : Below w4.heap.size w4 w5 := (Below.refl _ w4).drew.trans hb5
  have hq5 : w5.cell? ⟨px, 0, none⟩ = some (.int .u64 (g : Nat)) := (hb45.cell (p := ⟨px, 0, none⟩) hpx4).trans hq0
  refine hK _ _ hq5 ?_
  clear hK K
  refine x_take rfl (fun K hK => ⟨_, fun w' => exec_buildA rfl (builtXP ep g true true a5 n5 c5), ?_⟩)
  go_simp
  refine hK _ ?_
  clear hK K
  refine x_show' rfl (fun K hK => ?_)
  go_simp
  refine (yseal_any w5 ep g true true (headD t f) (.slice a5 n5 c5) (hO5.sl el8.len) (pack_lt _) HE.out HG.out (by rw [headD_len]; decide)).mono ?_
  rintro e w6 ⟨v6, rfl, hO6, hb6⟩
  obtain ⟨a6, n6, c6, rfl⟩ := LOut.shape hO6
  refine hK _ _ ((hb6.cell (p := ⟨px, 0, none⟩) (Nat.lt_of_lt_of_le hpx4 hb45.size)).trans hq5) ?_
  clear hK K
  iterate 5 (refine x_take rfl (fun K hK => ?_); go_simp; refine hK _ ?_; clear hK K)
  refine x_nil ?_
  have h14 := HB14.out
  have hbf : Below w1.heap.size w1 w6 := (h14.trans (hb45.mono h14.size)).trans (hb6.mono (Nat.le_trans h14.size hb45.size))
  have hws : w.heap.size ≤ w5.heap.size := Nat.le_trans HB1.out.size (Nat.le_trans h14.size hb45.size)
  have HO6 := Lib.hid (hO6.mono hws)
  have HBF := Lib.hid (HB1.out.trans (hbf.mono HB1.out.size))
  clear hO6 hbf hb6 hb45 hq5 hq0 hO5 hb5 hby h14
  go_wp2
  go_ret2
  have hx := HPX.out
  refine ⟨_, rfl, ?_, ?_⟩
  · rw [← hx]
    exact HO6.out
  · exact HBF.out
theorem aggXH (a b c : Int) : AggT Tryz.prog 82 (#[.int .u64 a, .int .u64 b, .int .u64 c] : Array Value).size := ⟨⟨_, Tryz.underlying82, rfl⟩, by kernel_rfl⟩
set_option maxRecDepth 20000 in
set_option maxHeartbeats 4000000 in
theorem hxsave_any {w : World} {S F : Nat → Prop} {p : Nat} {d : Dsk} (h : RDk w S F p d) (a ep g t f : Nat) (ha : a + 1 < d.L.length) (he : ep ≤ 16777215) (hg : g ≤ 1099511627775) (ht : t < 2 ^ 40) (hf : f < 2 ^ 24) (hq : d.Q.length < 1000000000) :
    Calls Tryz.prog 65 #[.pointer (some ⟨p, 0, none⟩), .int .i64 a, .int .u64 ep, .agg #[.int .u64 g, .int .u64 t, .int .u64 f]] w
    fun e w' => e = .returned (.int .i64 ((d.save a ep ⟨g, t, f⟩).2 : Nat)) ∧ ∃ S' F', RDk w' S' F' p (d.save a ep ⟨g, t, f⟩).1 ∧ RTo w w' S F S' F' := by
  have hsec := headPc_sec ep ⟨g, t, f⟩
  have hb1 : Below w.heap.size w (w.alloc (.cells #[.int .u64 g, .int .u64 t, .int .u64 f] 82)) := (Below.refl _ _).alloc (Nat.le_refl _) _
  have hH : (w.alloc (.cells #[.int .u64 g, .int .u64 t, .int .u64 f] 82)).heap[w.heap.size]? = some (.cells #[.int .u64 g, .int .u64 t, .int .u64 f] 82 (0, 0)) := heap_alloc_at
  have hhi := h.ok.hi
  have hse := fun W => hxsector_any W ep g t f he hg ht hf
  have hr1 : g % 2 ≤ 1 := by omega
  obtain ⟨r, hr⟩ : ∃ r, g % 2 = r := ⟨_, rfl⟩
  have hge : (g : Int) % 2 = ((r : Nat) : Int) := by omega
  have hgt : (g : Int).tmod 2 = ((r : Nat) : Int) := by rw [Int.tmod_eq_emod_of_nonneg (by omega)]; exact hge
  have hsv : d.save a ep ⟨g, t, f⟩ = if d.step.off = true then (d.step, 7) else ((d.write (a + r) (sealB (headPc ep ⟨g, t, f⟩))).flush, (d.write (a + r) (sealB (headPc ep ⟨g, t, f⟩))).dead) := by
    unfold Dsk.save
    rw [hr]
  rw [hr] at hr1
  have hri : (r : Int) ≤ 1 := by omega
  have hai : (a : Int) + 1 < (d.L.length : Int) := by omega
  have hL63 : (d.L.length : Int) ≤ 4096 := by omega
  have e0 : decide ((a : Int) < 0) = false := decide_eq_false (by omega)
  have e1 : decide ((d.L.length : Int) - 1 ≤ (a : Int)) = false := decide_eq_false (by omega)
  have HSV := Lib.hid hsv
  have HSE := Lib.hid hse
  have HSEC := Lib.hid hsec
  have HD0 := Lib.hid h
  have HB1 := Lib.hid hb1
  have HH := Lib.hid hH
  have HQ := Lib.hid hq
  have HRA : Hid (a + r < d.L.length) := Lib.hid (by omega)
  clear hsv hse hsec h hb1 hH hr he hg ht hf hq ha
  generalize hw1 : w.alloc (.cells #[.int .u64 g, .int .u64 t, .int .u64 f] 82) = w1 at *
  go_enter Tryz.func65, Tryz.ntmps65
  go_upto_region 1 with fail
  simp only [hw1] at *
  clear hw1
  obtain ⟨px, hpx⟩ : ∃ px, w.heap.size = px := ⟨_, rfl⟩
  have HPX := Lib.hid hpx
  rw [hpx] at HH ⊢
  clear hpx
  go_upto_region 2 with (first
    | ((with_reducible refine wpList_loadA (aggXH _ _ _) (lies_of HH.out) ?_ ?_); rfl; go_frame)
    | (go_at_call 96; refine (HSE.out _).mono ?_; rintro e w2 ⟨v2, rfl, hO2, hb2⟩; obtain ⟨a2, n2, c2, rfl⟩ := LOut.shape hO2; have HO2 := Lib.hid hO2; have HB2 := Lib.hid hb2; clear hO2 hb2; go_frame)
    | fail)
  have hb02 : Below w.heap.size w w2 := HB1.out.trans (HB2.out.mono HB1.out.size)
  have hD2 := HD0.out.below hb02
  obtain ⟨lv, qv, xs, qs, h1, h2, h3, -⟩ := hD2.ex
  have hxl : xs.length = d.L.length := by rw [← h2]; simp
  obtain ⟨la, lc, rfl, l1, l2, -⟩ := h3.sl elB.len
  rw [hxl] at h1
  have c0 := cell_of (o := 0) h1 rfl
  have c3 := cell_of (o := 0) ((HB2.out.block _ (lt_of_block HH.out)).trans HH.out) rfl
  have hown : ∀ k, (Value.slice a2 n2 c2).ownBlock = some k → w.heap.size ≤ k := fun k hk => Nat.le_trans HB1.out.size (HO2.out.lo k hk)
  have hdat : Dat w2 S (a2, n2, c2) (sealB (headPc ep ⟨g, t, f⟩)) := ⟨HO2.out.sl el8.len, fun k hk => ⟨fun e => by have := HD0.out.lt k e; have := hown k hk; omega, HO2.out.lt hk⟩⟩
  have hwr := xwrite_any hD2 (a + r) HRA.out (a2, n2, c2) _ hdat HSEC.out HQ.out
  rw [show ((a + r : Nat) : Int) = (a : Int) + (r : Int) by omega] at hwr
  have hwa : IntKind.i64.wrap ((a : Int) + (r : Int)) = (a : Int) + (r : Int) := IntWalk.i64_in _ (by omega)
  have HWR := Lib.hid hwr
  have HB02 := Lib.hid hb02
  clear h1 h2 h3 hxl l1 l2 hD2 hown hdat hwr hb02 HH HO2
  by_cases hoff : d.step.off = true
  · have hdead : d.dead = 7 := by unfold Dsk.dead; rw [if_pos hoff]
    have hw9 : d.write (a + r) (sealB (headPc ep ⟨g, t, f⟩)) = d.step := by unfold Dsk.write; rw [if_pos hoff]
    have hwr := HWR.out
    rw [hdead, hw9] at hwr
    have HS := Lib.hid HSV.out
    have hs := HSV.out
    rw [if_pos hoff] at hs
    have HS := Lib.hid hs
    clear hdead hw9 HWR HSV hs hoff
    go_wp2_with (first
      | (go_at_call 60; refine hwr.mono ?_; rintro e w5 ⟨rfl, S5, F5, hD5, hT5⟩; have HD5 := Lib.hid hD5; have HT5 := Lib.hid hT5; clear hD5 hT5; go_frame)
      | fail)
    go_ret
    rw [HS.out]
    exact ⟨rfl, _, _, HD5.out, RTo.before HB02.out HT5.out⟩
  · have hoff : d.step.off = false := by simpa using hoff
    have hdead : d.dead = 0 := by unfold Dsk.dead; rw [if_neg (by rw [hoff]; decide)]
    have hwr := HWR.out
    rw [hdead] at hwr
    have hs := HSV.out
    rw [if_neg (by rw [hoff]; decide)] at hs
    have HS := Lib.hid hs
    clear hdead HWR HSV hs hoff
    go_upto_region 7 with (first
      | (go_at_call 60; refine hwr.mono ?_; rintro e w5 ⟨rfl, S5, F5, hD5, hT5⟩; have HD5 := Lib.hid hD5; have HT5 := Lib.hid hT5; clear hD5 hT5; go_frame)
      | fail)
    have hfl := xflush_any HD5.out
    clear hwr
    go_wp2_with (first
      | (go_at_call 62; refine hfl.mono ?_; rintro e w6 ⟨rfl, hD6, hm6⟩; have HD6 := Lib.hid hD6; have HM6 := Lib.hid hm6; clear hD6 hm6; go_frame)
      | fail)
    go_ret
    rw [HS.out]
    exact ⟨rfl, _, _, HD6.out, (RTo.before HB02.out HT5.out).trans (RTo.of_mod _ HM6.out)⟩
end Go.Proofs.YtmakpbjknklpiaaGreat
