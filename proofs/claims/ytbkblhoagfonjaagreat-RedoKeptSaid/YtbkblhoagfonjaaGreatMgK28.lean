/- What RedoAround keeps: plain. -/
import Derived.Test.YtbkblhoagfonjaaGreatMgK27
/- Lists of sectors in memory; Same, same: walked. -/
namespace Go.Proofs.YtbkblhoagfonjaaGreat
open Go.RowKit Go.Tn Go.Tn.Bt Go.Tn.Lp Go.Tn.Dk
set_option maxRecDepth 20000 in
theorem rsame_any (w : World) (v u : Value) (cs bs : List Nat) (ha : LSl en8 1 w v cs) (hb : LSl en8 1 w u bs) : Calls Tryz.prog 25 #[v, u] w
    fun e w' => e = .returned (.bool (decide (cs = bs))) ∧ Below w.heap.size w w' := by
  obtain ⟨ao, ca, rfl, a1, a2, a3⟩ := ha
  obtain ⟨bo, cb, rfl, b1, b2, b3⟩ := hb
  unfold maxLen at a2 b2
  have ha63 : (cs.length : Int) ≤ 9223372036854775807 := by omega
  have hb63 : (bs.length : Int) ≤ 9223372036854775807 := by omega
  obtain ⟨R, hR⟩ : ∃ R, decide (cs = bs) = R := ⟨_, rfl⟩
  rw [hR]
  have HR := Lib.hid hR
  clear hR
  by_cases hl : cs.length = bs.length
  · have hne : ((cs.length : Int) != (bs.length : Int)) = false := by rw [bne_eq_false_iff_eq]; omega
    rw [← hl] at hne b1 b3 hb63 ⊢
    have HL := Lib.hid hl
    clear hl
    go_enter Tryz.func25, Tryz.ntmps25
    go_wp2
    go_loopw [5] (fun iv wi => ∃ k : Nat, k ≤ cs.length ∧ iv = .int .i64 k ∧ cs.take k = bs.take k ∧ Below w.heap.size w wi) (fun iv _ => cs.length - (intOf iv).toNat)
    case atStart => exact ⟨0, Nat.zero_le _, rfl, rfl, Below.refl _ _⟩
    case round =>
      obtain ⟨k, hk, rfl, hpre, hbe⟩ := hrel
      by_cases hlt : k < cs.length
      · have hd1 : decide (k < cs.length) = true := by simp [hlt]
        have hkl : (k : Int) < (cs.length : Int) := by omega
        obtain ⟨b4, o4, rfl, hb4, hc4⟩ := a3 (by omega)
        obtain ⟨b5, o5, rfl, hb5, hc5⟩ := b3 (by omega)
        have hx : cs[k]? = some cs[k] := List.getElem?_eq_getElem hlt
        have hy : bs[k]? = some (bs[k]'(by rw [← HL.out]; exact hlt)) := List.getElem?_eq_getElem _
        generalize cs[k] = x at hx
        generalize (bs[k]'(by rw [← HL.out]; exact hlt)) = y at hy
        have p0 : wr.drew.cell? ⟨b4, o4 + k, none⟩ = some (.int .u8 (x : Nat)) := by
          have := (hc4 k x hx).below' hbe hb4 0 (by simp)
          simpa using this
        have p1 : wr.drew.cell? ⟨b5, o5 + k, none⟩ = some (.int .u8 (y : Nat)) := by
          have := (hc5 k y hy).below' hbe hb5 0 (by simp)
          simpa using this
        have hS := And.intro p0 p1
        have HX := Lib.hid hx
        have HY := Lib.hid hy
        have HP := Lib.hid hpre
        have HB := Lib.hid hbe
        clear hx hy hpre hbe p0 p1 hc4 hc5 a3 b3
        go_upto_region 6 with fail
        refine wp_region_x (fun w' => w'.cell? ⟨b4, o4 + k, none⟩ = some (.int .u8 (x : Nat)) ∧ w'.cell? ⟨b5, o5 + k, none⟩ = some (.int .u8 (y : Nat))) [(0, 1), (1, 1), (2, 1), (3, 0), (4, 1), (5, 1), (6, 1), (7, 0), (8, 1)] (by kernel_rfl) (by kernel_rfl) (by intro d v c a w h; cases d <;> exact h) ?_
        iterate 3 (refine x_take rfl (fun K hK => ?_); go_simp; refine hK _ ?_; clear hK K)
        refine x_read rfl hS (fun w' h => exec_load1 ⟨⟨_, Tryz.underlying5, rfl⟩⟩ rfl h.1) ?_
        iterate 3 (refine x_take rfl (fun K hK => ?_); go_simp; refine hK _ ?_; clear hK K)
        refine x_read rfl hS (fun w' h => exec_load1 ⟨⟨_, Tryz.underlying5, rfl⟩⟩ rfl h.2) ?_
        iterate 1 (refine x_take rfl (fun K hK => ?_); go_simp; refine hK _ ?_; clear hK K)
        refine x_nil ?_
        clear hS
        by_cases hxy : x = y
        · have hee : ((x : Int) != (y : Int)) = false := by rw [bne_eq_false_iff_eq]; omega
          have HXY := Lib.hid hxy
          clear hxy
          go_wp2
          go_roundw
          case rel => exact ⟨k + 1, by omega, by go_num, by rw [take_snoc HX.out, take_snoc HY.out, HP.out, HXY.out], HB.out.drew⟩
          case measure => simp [intOf]; omega
        · have hee : ((x : Int) != (y : Int)) = true := by rw [bne_iff_ne]; omega
          have hno : R = false := by
            rw [← HR.out]
            refine decide_eq_false fun e => hxy ?_
            have h1 := HX.out
            rw [e, HY.out] at h1
            exact (Option.some.inj h1).symm
          have HNO := Lib.hid hno
          clear hno hxy
          go_wp2
          go_ret
          rw [HNO.out]
          exact ⟨rfl, HB.out.drew⟩
      · obtain rfl : k = cs.length := by omega
        have hd1 : decide (cs.length < cs.length) = false := by simp
        have hyes : R = true := by
          rw [← HR.out]
          refine decide_eq_true ?_
          have h2 := hpre
          conv at h2 => rhs; rw [HL.out]
          rw [List.take_length, List.take_length] at h2
          exact h2
        have HNO := Lib.hid hyes
        have HB := Lib.hid hbe
        clear hyes hpre hbe
        go_wp2
        go_ret
        rw [HNO.out]
        exact ⟨rfl, HB.out⟩
  · have hne : ((cs.length : Int) != (bs.length : Int)) = true := by rw [bne_iff_ne]; omega
    have HNO : Hid (R = false) := Lib.hid (by rw [← HR.out]; exact decide_eq_false fun e => hl (by rw [e]))
    clear hl
    go_enter Tryz.func25, Tryz.ntmps25
    go_wp2
    go_ret
    rw [HNO.out]
    exact ⟨rfl, Below.refl _ _⟩
/-- Lists of bytes in a slice; no block of theirs among S, all are there. -/
def enB (x : List Nat × Sv) : List Value := [sv x.2]
theorem elB : ElT Tryz.prog 50 53 1 enB := ⟨Tryz.underlying50, by kernel_rfl, by omega, fun _ => rfl, fun x u hu => by
  simp only [enB, List.mem_cons, List.not_mem_nil, or_false] at hu
  rw [hu]
  rfl⟩
def BlA (w : World) (S : Nat → Prop) (v : Value) (hs : List (List Nat)) : Prop := ∃ xs : List (List Nat × Sv), xs.map (·.1) = hs ∧ LSl enB 1 w v xs ∧ (∀ r, v.ownBlock = some r → ¬ S r ∧ r < w.heap.size) ∧
  ∀ x ∈ xs, LSl en8 1 w (sv x.2) x.1 ∧ ∀ r, (sv x.2).ownBlock = some r → ¬ S r ∧ r < w.heap.size
theorem BlA.mod {w w' : World} {S S' : Nat → Prop} {v : Value} {hs : List (List Nat)} (h : BlA w S v hs) (hm : Mod S w w') (hS : ∀ b, S' b → S b ∨ w.heap.size ≤ b) : BlA w' S' v hs := by
  obtain ⟨xs, h1, h2, h3, h4⟩ := h
  have key : ∀ r, ¬ S r ∧ r < w.heap.size → ¬ S' r ∧ r < w'.heap.size := fun r hr => ⟨fun e => by
    rcases hS r e with h | h
    · exact hr.1 h
    · omega, Nat.lt_of_lt_of_le hr.2 hm.size⟩
  exact ⟨xs, h1, h2.mod hm fun r hr => (h3 r hr).1, fun r hr => key r (h3 r hr), fun x hx => ⟨(h4 x hx).1.mod hm fun r hr => ((h4 x hx).2 r hr).1, fun r hr => key r ((h4 x hx).2 r hr)⟩⟩
theorem BlA.below {w w' : World} {S S' : Nat → Prop} {v : Value} {hs : List (List Nat)} (h : BlA w S v hs) (hb : Below w.heap.size w w') (hS : ∀ b, S' b → S b ∨ w.heap.size ≤ b) : BlA w' S' v hs := by
  obtain ⟨xs, h1, h2, h3, h4⟩ := h
  have key : ∀ r, ¬ S r ∧ r < w.heap.size → ¬ S' r ∧ r < w'.heap.size := fun r hr => ⟨fun e => by
    rcases hS r e with h | h
    · exact hr.1 h
    · omega, Nat.lt_of_lt_of_le hr.2 hb.size⟩
  exact ⟨xs, h1, h2.below hb, fun r hr => key r (h3 r hr), fun x hx => ⟨(h4 x hx).1.below hb, fun r hr => key r ((h4 x hx).2 r hr)⟩⟩
theorem BlA.shape {w : World} {S : Nat → Prop} {v : Value} {hs : List (List Nat)} (h : BlA w S v hs) : ∃ a n c, v = .slice a n c := by
  obtain ⟨xs, -, ⟨ao, cap, rfl, -⟩, -⟩ := h
  exact ⟨_, _, _, rfl⟩
/-- The same, all made from B on. -/
def BlO (B : Nat) (w : World) (v : Value) (hs : List (List Nat)) : Prop := ∃ xs : List (List Nat × Sv), xs.map (·.1) = hs ∧ LOut enB 1 53 B w v xs ∧
  ∀ x ∈ xs, LSl en8 1 w (sv x.2) x.1 ∧ ∀ r, (sv x.2).ownBlock = some r → B ≤ r ∧ r < w.heap.size
theorem BlO.a {B : Nat} {w : World} {S : Nat → Prop} {v : Value} {hs : List (List Nat)} (h : BlO B w v hs) (hS : ∀ b, S b → b < B) : BlA w S v hs := by
  obtain ⟨xs, h1, h2, h3⟩ := h
  exact ⟨xs, h1, h2.sl elB.len, fun r hr => ⟨fun e => by have := hS r e; have := h2.lo r hr; omega, h2.lt hr⟩, fun x hx => ⟨(h3 x hx).1, fun r hr => ⟨fun e => by have := hS r e; have := ((h3 x hx).2 r hr).1; omega, ((h3 x hx).2 r hr).2⟩⟩⟩
set_option maxRecDepth 20000 in
theorem lsame_any (w : World) (S : Nat → Prop) (v u : Value) (cs bs : List (List Nat)) (ha : BlA w S v cs) (hb : BlA w S u bs) : Calls Tryz.prog 33 #[v, u] w
    fun e w' => e = .returned (.bool (decide (cs = bs))) ∧ Below w.heap.size w w' := by
  obtain ⟨xs, hxs, ha, -, hxd⟩ := ha
  obtain ⟨ys, hys, hb, -, hyd⟩ := hb
  have hxl : xs.length = cs.length := by rw [← hxs]; simp
  have hyl : ys.length = bs.length := by rw [← hys]; simp
  obtain ⟨ao, ca, rfl, a1, a2, a3⟩ := ha
  obtain ⟨bo, cb, rfl, b1, b2, b3⟩ := hb
  rw [hxl] at a1 a3 ⊢
  rw [hyl] at b1 b3 ⊢
  unfold maxLen at a2 b2
  have ha63 : (cs.length : Int) ≤ 9223372036854775807 := by omega
  have hb63 : (bs.length : Int) ≤ 9223372036854775807 := by omega
  have HXS := Lib.hid hxs
  have HYS := Lib.hid hys
  have HXD := Lib.hid hxd
  have HYD := Lib.hid hyd
  have HXL := Lib.hid hxl
  have HYL := Lib.hid hyl
  obtain ⟨R, hR⟩ : ∃ R, decide (cs = bs) = R := ⟨_, rfl⟩
  rw [hR]
  have HR := Lib.hid hR
  clear hR hxs hys hxd hyd hxl hyl
  by_cases hl : cs.length = bs.length
  · have hne : ((cs.length : Int) != (bs.length : Int)) = false := by rw [bne_eq_false_iff_eq]; omega
    rw [← hl] at hne b1 b3 hb63 ⊢
    have HL := Lib.hid hl
    clear hl
    go_enter Tryz.func33, Tryz.ntmps33
    go_wp2
    go_loopw [5] (fun iv wi => ∃ k : Nat, k ≤ cs.length ∧ iv = .int .i64 k ∧ cs.take k = bs.take k ∧ Below w.heap.size w wi) (fun iv _ => cs.length - (intOf iv).toNat)
    case atStart => exact ⟨0, Nat.zero_le _, rfl, rfl, Below.refl _ _⟩
    case round =>
      obtain ⟨k, hk, rfl, hpre, hbe⟩ := hrel
      by_cases hlt : k < cs.length
      · have hd1 : decide (k < cs.length) = true := by simp [hlt]
        have hkl : (k : Int) < (cs.length : Int) := by omega
        obtain ⟨b4, o4, rfl, hb4, hc4⟩ := a3 (by omega)
        obtain ⟨b5, o5, rfl, hb5, hc5⟩ := b3 (by omega)
        obtain ⟨x, hx⟩ : ∃ x, xs[k]? = some x := ⟨_, List.getElem?_eq_getElem (by rw [HXL.out]; exact hlt)⟩
        obtain ⟨y, hy⟩ : ∃ y, ys[k]? = some y := ⟨_, List.getElem?_eq_getElem (by rw [HYL.out, ← HL.out]; exact hlt)⟩
        have hax : cs[k]? = some x.1 := by rw [← HXS.out, List.getElem?_map, hx]; rfl
        have hby : bs[k]? = some y.1 := by rw [← HYS.out, List.getElem?_map, hy]; rfl
        have hdx := ((HXD.out x (List.mem_of_getElem? hx)).1.below hbe).below (Below.refl _ _).drew
        have hdy := ((HYD.out y (List.mem_of_getElem? hy)).1.below hbe).below (Below.refl _ _).drew
        have p0 : wr.drew.cell? ⟨b4, o4 + k, none⟩ = some (sv x.2) := by
          have := (hc4 k x hx).below' hbe hb4 0 (by simp [enB])
          simpa [enB] using this
        have p1 : wr.drew.cell? ⟨b5, o5 + k, none⟩ = some (sv y.2) := by
          have := (hc5 k y hy).below' hbe hb5 0 (by simp [enB])
          simpa [enB] using this
        obtain ⟨x, ⟨xa, xn, xc⟩⟩ := x
        obtain ⟨y, ⟨ya, yn, yc⟩⟩ := y
        have hrs := rsame_any wr.drew _ _ _ _ hdx hdy
        have hS := And.intro p0 p1
        have HX := Lib.hid hax
        have HY := Lib.hid hby
        have HP := Lib.hid hpre
        have HB := Lib.hid hbe
        have hbw4 : b4 < wr.drew.heap.size := Nat.lt_of_lt_of_le hb4 hbe.size
        have hbw5 : b5 < wr.drew.heap.size := Nat.lt_of_lt_of_le hb5 hbe.size
        clear hx hy hax hby hpre hbe p0 p1 hc4 hc5 a3 b3 hdx hdy
        go_upto_region 6 with fail
        refine wp_region_x (fun w' => w'.cell? ⟨b4, o4 + k, none⟩ = some (.slice xa xn xc) ∧ w'.cell? ⟨b5, o5 + k, none⟩ = some (.slice ya yn yc)) [(0, 1), (1, 1), (2, 1), (3, 0), (4, 1), (5, 1), (6, 1), (7, 0), (8, 2), (9, 1)] (by kernel_rfl) (by kernel_rfl) (by intro d v c a w h; cases d <;> exact h) ?_
        iterate 3 (refine x_take rfl (fun K hK => ?_); go_simp; refine hK _ ?_; clear hK K)
        refine x_read rfl hS (fun w' h => exec_load1 ⟨⟨_, Tryz.underlying53, rfl⟩⟩ rfl h.1) ?_
        iterate 3 (refine x_take rfl (fun K hK => ?_); go_simp; refine hK _ ?_; clear hK K)
        refine x_read rfl hS (fun w' h => exec_load1 ⟨⟨_, Tryz.underlying53, rfl⟩⟩ rfl h.2) ?_
        refine x_show' rfl (fun K hK => ?_)
        go_simp
        refine hrs.mono ?_
        rintro e w5 ⟨rfl, hb5'⟩
        refine hK _ _ ⟨(hb5'.cell (p := ⟨b4, o4 + k, none⟩) hbw4).trans hS.1, (hb5'.cell (p := ⟨b5, o5 + k, none⟩) hbw5).trans hS.2⟩ ?_
        have HB5 := Lib.hid (HB.out.drew.trans (hb5'.mono (show w.heap.size ≤ wr.heap.size from HB.out.size)))
        clear hK K hS hrs hb5'
        by_cases hxy : x = y
        · have hee : decide (x = y) = true := decide_eq_true hxy
          rw [hee]
          iterate 1 (refine x_take rfl (fun K hK => ?_); go_simp; refine hK _ ?_; clear hK K)
          refine x_nil ?_
          have HXY := Lib.hid hxy
          clear hxy hee
          go_wp2
          go_roundw
          case rel => exact ⟨k + 1, by omega, by go_num, by rw [take_snoc HX.out, take_snoc HY.out, HP.out, HXY.out], HB5.out⟩
          case measure => simp [intOf]; omega
        · have hee : decide (x = y) = false := decide_eq_false hxy
          rw [hee]
          iterate 1 (refine x_take rfl (fun K hK => ?_); go_simp; refine hK _ ?_; clear hK K)
          refine x_nil ?_
          have hno : R = false := by
            rw [← HR.out]
            refine decide_eq_false fun e => hxy ?_
            have h1 := HX.out
            rw [e, HY.out] at h1
            exact (Option.some.inj h1).symm
          have HNO := Lib.hid hno
          clear hno hxy hee
          go_wp2
          go_ret
          rw [HNO.out]
          exact ⟨rfl, HB5.out⟩
      · obtain rfl : k = cs.length := by omega
        have hd1 : decide (cs.length < cs.length) = false := by simp
        have hyes : R = true := by
          rw [← HR.out]
          refine decide_eq_true ?_
          have h2 := hpre
          conv at h2 => rhs; rw [HL.out]
          rw [List.take_length, List.take_length] at h2
          exact h2
        have HNO := Lib.hid hyes
        have HB := Lib.hid hbe
        clear hyes hpre hbe
        go_wp2
        go_ret
        rw [HNO.out]
        exact ⟨rfl, HB.out⟩
  · have hne : ((cs.length : Int) != (bs.length : Int)) = true := by rw [bne_iff_ne]; omega
    have HNO : Hid (R = false) := Lib.hid (by rw [← HR.out]; exact decide_eq_false fun e => hl (by rw [e]))
    clear hl
    go_enter Tryz.func33, Tryz.ntmps33
    go_wp2
    go_ret
    rw [HNO.out]
    exact ⟨rfl, Below.refl _ _⟩
end Go.Proofs.YtbkblhoagfonjaaGreat

/- All homes; homes behind a transaction: walked. -/
namespace Go.Proofs.YtbkblhoagfonjaaGreat
open Go.RowKit Go.Tn Go.Tn.Bt Go.Tn.Lp Go.Tn.Dk
def homesB (l : Lg) (d : Dsk) : List (List Nat) := (List.range (l.homes d)).map (l.home d)
def BlG (B : Nat) (w : World) (v : Value) (xs : List (List Nat × Sv)) : Prop := ∀ x ∈ xs, LSl en8 1 w (sv x.2) x.1 ∧ ∀ r, (sv x.2).ownBlock = some r → B ≤ r ∧ r < w.heap.size ∧ v.ownBlock ≠ some r
theorem BlG.below {B : Nat} {w w' : World} {v : Value} {xs : List (List Nat × Sv)} (h : BlG B w v xs) (hb : Below w.heap.size w w') : BlG B w' v xs := fun x hx =>
  ⟨(h x hx).1.below hb, fun r hr => ⟨((h x hx).2 r hr).1, Nat.lt_of_lt_of_le ((h x hx).2 r hr).2.1 hb.size, ((h x hx).2 r hr).2.2⟩⟩
theorem BlG.push {B : Nat} {W w4 : World} {v v4 : Value} {xs : List (List Nat × Sv)} {x : List Nat × Sv} (hD : BlG B W v xs) (hO : LOut enB 1 53 B W v xs) (hx : LSl en8 1 W (sv x.2) x.1) (hxl : ∀ r, (sv x.2).ownBlock = some r → B ≤ r ∧ r < W.heap.size ∧ v.ownBlock ≠ some r)
    (hm : Mod (fun b => v.ownBlock = some b) W w4) (hv : v4.ownBlock = v.ownBlock ∨ ∃ r, v4.ownBlock = some r ∧ W.heap.size ≤ r) : BlG B w4 v4 (xs ++ [x]) := by
  intro y hy
  have key : LSl en8 1 W (sv y.2) y.1 ∧ ∀ r, (sv y.2).ownBlock = some r → B ≤ r ∧ r < W.heap.size ∧ v.ownBlock ≠ some r := by
    rcases List.mem_append.1 hy with hy | hy
    · exact hD y hy
    · rw [List.mem_singleton.1 hy]
      exact ⟨hx, hxl⟩
  refine ⟨key.1.mod hm fun r hr => (key.2 r hr).2.2, fun r hr => ⟨(key.2 r hr).1, Nat.lt_of_lt_of_le (key.2 r hr).2.1 hm.size, ?_⟩⟩
  rcases hv with hv | ⟨r', hv, hr'⟩
  · rw [hv]; exact (key.2 r hr).2.2
  · rw [hv]
    intro e
    cases e
    have := (key.2 _ hr).2.1
    omega
set_option maxRecDepth 20000 in
set_option maxHeartbeats 4000000 in
theorem lhomes_any {w : World} {F FD : Nat → Prop} {g p : Nat} {l : Lg} {d : Dsk} (h : LAt w F g p l) (hd : DAt w FD p d) (hok' : l.ok d) :
    Calls Tryz.prog 30 #[.pointer (some ⟨g, 0, none⟩)] w fun e w' => ∃ v, e = .returned v ∧ BlO w.heap.size w' v (homesB l d) ∧ Below w.heap.size w w' := by
  have hhi := hd.ok.hi
  have hho : l.homes d = d.L.length - 2 - l.n := rfl
  have hh4 : l.homes d ≤ 4096 := by omega
  obtain ⟨H, hH⟩ : ∃ H, l.homes d = H := ⟨_, rfl⟩
  have HL := Lib.hid h
  have HD := Lib.hid hd
  have HOK := Lib.hid hok'
  have HH := Lib.hid hH
  rw [hH] at hh4
  have hh63 : (H : Int) ≤ 4096 := by omega
  have hHo : Hid (∀ W, Below w.heap.size w W → Calls Tryz.prog 21 #[.pointer (some ⟨g, 0, none⟩)] W fun e w' => e = .returned (.int .i64 (H : Nat)) ∧ Below W.heap.size W w') := Lib.hid fun W hW => by
    have := homes_any (h.below hW) (hd.below hW) hok'.nd
    rwa [hH] at this
  clear h hd hok' hho hH
  go_enter Tryz.func30, Tryz.ntmps30
  go_wp2
  go_loopw [3, 4] (fun ov iv wi => ∃ k : Nat, k ≤ H ∧ iv = .int .i64 k ∧ Below w.heap.size w wi ∧ ∃ xs : List (List Nat × Sv), xs.map (·.1) = (List.range k).map (l.home d) ∧ LOut enB 1 53 w.heap.size wi ov xs ∧ BlG w.heap.size wi ov xs) (fun _ iv _ => H - (intOf iv).toNat)
  case atStart => exact ⟨0, Nat.zero_le _, rfl, Below.refl _ _, [], rfl, LOut.nil (Nat.le_refl _), fun x hx => by cases hx⟩
  case round =>
    obtain ⟨k, hk, rfl, hb, xs, hxs, hO, hG⟩ := hrel
    have hxl : xs.length = k := by
      have := congrArg List.length hxs
      simpa using this
    have hol : xs.length ≤ 1000000000 := by omega
    obtain ⟨a3, n3, c3, rfl⟩ := hO.shape
    have HXS := Lib.hid hxs
    have HO := Lib.hid hO
    have HG := Lib.hid hG
    have HB := Lib.hid hb
    clear hxs hO hG hb hxl
    go_wp2_with fail
    refine (hHo.out _ HB.out).mono ?_
    rintro e w1 ⟨rfl, hb1⟩
    have HB1 := Lib.hid (HB.out.trans (hb1.mono HB.out.size))
    have HB1' := Lib.hid hb1
    clear hb1
    by_cases hlt : k < H
    · have hd1 : decide (k < H) = true := by simp [hlt]
      have hrd := gread_any (HL.out.below HB1.out) (HD.out.below HB1.out) HOK.out k (by rw [HH.out]; exact hlt)
      go_wp2_with fail
      refine hrd.mono ?_
      rintro e w2 ⟨v2, rfl, hv2, hb2⟩
      obtain ⟨a2, n2, c2, hv2'⟩ : ∃ a n c, v2 = .slice a n c := by
        obtain ⟨ao, cap, h, -⟩ := hv2.sl
        exact ⟨_, _, _, h⟩
      subst hv2'
      have HV2 := Lib.hid hv2
      have HB2 := Lib.hid hb2
      have HB12 := Lib.hid (HB1'.out.trans (hb2.mono HB1'.out.size))
      clear hv2 hb2 hrd
      go_wp2_with (first
        | ((with_reducible refine wpList_append1Y elB (HO.out.below HB12.out) ((l.home d k), (a2, n2, c2)) hol ?_ ?_ ?_ ?_); rfl; rfl; rfl; (intro v4 w4 hO4 hm4 hv4; have HO4 := Lib.hid hO4; have HM4 := Lib.hid hm4; have HV4 := Lib.hid hv4; clear hO4 hm4 hv4); go_frame)
        | fail)
      have hlo := HO.out.lo
      have hws : w.heap.size ≤ w1.heap.size := HB1.out.size
      go_roundw
      case rel =>
        refine ⟨k + 1, by omega, by go_num, ?_, xs ++ [((l.home d k), (a2, n2, c2))], ?_, HO4.out, ?_⟩
        · exact ((HB1.out.trans (HB2.out.mono HB1.out.size))).trans (HM4.out.below (Nat.le_trans HB1.out.size HB2.out.size) fun x hx e => by have := hlo x e; omega)
        · rw [List.map_append, HXS.out, List.range_succ, List.map_append]
          rfl
        · refine BlG.push (HG.out.below HB12.out) (HO.out.below HB12.out) HV2.out.sl (fun r hr => ?_) HM4.out HV4.out
          have h1 := HV2.out.lo r hr
          have h2 := HV2.out.lt r hr
          refine ⟨by omega, h2, fun e => ?_⟩
          have := HO.out.lt e
          have := HB1'.out.size
          omega
      case measure => simp [intOf]; omega
    · obtain rfl : k = H := by omega
      have hd1 : decide (k < k) = false := by simp
      go_wp2
      go_ret
      refine ⟨_, rfl, ⟨xs, ?_, HO.out.below HB1'.out, fun x hx => ⟨(HG.out x hx).1.below HB1'.out, fun r hr => ⟨((HG.out x hx).2 r hr).1, Nat.lt_of_lt_of_le ((HG.out x hx).2 r hr).2.1 HB1'.out.size⟩⟩⟩, HB1.out⟩
      unfold homesB
      rw [HH.out]
      exact HXS.out
/-- Homes behind a transaction. -/
def overB (hs : List (List Nat)) (ps : List Pt) : List (List Nat) := ps.foldl (fun hs p => if 0 ≤ p.1 ∧ p.1 < (hs.length : Int) then hs.set p.1.toNat p.2 else hs) hs
theorem overB_len : ∀ (ps : List Pt) (hs : List (List Nat)), (overB hs ps).length = hs.length
  | [], _ => rfl
  | p :: ps, hs => by
    show (overB (if 0 ≤ p.1 ∧ p.1 < (hs.length : Int) then hs.set p.1.toNat p.2 else hs) ps).length = _
    rw [overB_len ps]
    split
    · rw [List.length_set]
    · rfl
theorem overB_snoc (hs : List (List Nat)) (ps : List Pt) (p : Pt) : overB hs (ps ++ [p]) = if 0 ≤ p.1 ∧ p.1 < ((overB hs ps).length : Int) then (overB hs ps).set p.1.toNat p.2 else overB hs ps := by
  unfold overB
  rw [List.foldl_append]
  rfl
/-- Puts in a slice, all there, none of their blocks among S. -/
def PtB (w : World) (S : Nat → Prop) (v : Value) (ps : List Pt) : Prop := ∃ xs : List (Pt × Sv), xs.map (·.1) = ps ∧ LSl enPt 2 w v xs ∧ (∀ r, v.ownBlock = some r → ¬ S r ∧ r < w.heap.size) ∧ ∀ x ∈ xs, LSl en8 1 w (sv x.2) x.1.2 ∧ ∀ r, (sv x.2).ownBlock = some r → ¬ S r ∧ r < w.heap.size
theorem PtsO.b {B : Nat} {w : World} {S : Nat → Prop} {v : Value} {ps : List Pt} (h : PtsO B w v ps) (hS : ∀ b, S b → b < B ∨ w.heap.size ≤ b) : PtB w S v ps := by
  obtain ⟨xs, h1, h2, h3⟩ := h
  refine ⟨xs, h1, h2.sl elPt.len, fun r hr => ⟨fun e => ?_, h2.lt hr⟩, fun x hx => ⟨(h3 x hx).1, fun r hr => ⟨fun e => ?_, ((h3 x hx).2 r hr).2.1⟩⟩⟩
  · have := h2.lt hr
    have := h2.lo r hr
    rcases hS r e with h | h <;> omega
  · have := ((h3 x hx).2 r hr)
    rcases hS r e with h | h <;> omega
theorem PtB.a {w : World} {S : Nat → Prop} {v : Value} {ps : List Pt} (h : PtB w S v ps) : PtsA w S v ps := by
  obtain ⟨xs, h1, h2, h3, h4⟩ := h
  exact ⟨xs, h1, h2, fun r hr => (h3 r hr).1, fun x hx => ⟨(h4 x hx).1, fun r hr => ((h4 x hx).2 r hr).1⟩⟩
theorem PtB.mod {w w' : World} {S S' : Nat → Prop} {v : Value} {ps : List Pt} (h : PtB w S v ps) (hm : Mod S w w') (hS : ∀ b, S' b → S b ∨ w.heap.size ≤ b) : PtB w' S' v ps := by
  obtain ⟨xs, h1, h2, h3, h4⟩ := h
  have key : ∀ r, ¬ S r ∧ r < w.heap.size → ¬ S' r ∧ r < w'.heap.size := fun r hr => ⟨fun e => by
    rcases hS r e with h | h
    · exact hr.1 h
    · omega, Nat.lt_of_lt_of_le hr.2 hm.size⟩
  exact ⟨xs, h1, h2.mod hm fun r hr => (h3 r hr).1, fun r hr => key r (h3 r hr), fun x hx => ⟨(h4 x hx).1.mod hm fun r hr => ((h4 x hx).2 r hr).1, fun r hr => key r ((h4 x hx).2 r hr)⟩⟩
theorem PtB.below {w w' : World} {S : Nat → Prop} {v : Value} {ps : List Pt} (h : PtB w S v ps) (hb : Below w.heap.size w w') : PtB w' S v ps := by
  obtain ⟨xs, h1, h2, h3, h4⟩ := h
  exact ⟨xs, h1, h2.below hb, fun r hr => ⟨(h3 r hr).1, Nat.lt_of_lt_of_le (h3 r hr).2 hb.size⟩, fun x hx => ⟨(h4 x hx).1.below hb, fun r hr => ⟨((h4 x hx).2 r hr).1, Nat.lt_of_lt_of_le ((h4 x hx).2 r hr).2 hb.size⟩⟩⟩
end Go.Proofs.YtbkblhoagfonjaaGreat

/- Homes behind a transaction: walked. -/
namespace Go.Proofs.YtbkblhoagfonjaaGreat
open Go.RowKit Go.Tn Go.Tn.Bt Go.Tn.Lp Go.Tn.Dk
set_option maxRecDepth 20000 in
set_option maxHeartbeats 4000000 in
theorem over_any (w : World) (S : Nat → Prop) (v u : Value) (hs : List (List Nat)) (ps : List Pt) (hw : BlA w S v hs) (hp : PtB w S u ps) (hS0 : ∀ b, S b → b < w.heap.size) (hl : hs.length ≤ 5000) : Calls Tryz.prog 32 #[v, u] w
    fun e w' => ∃ v', e = .returned v' ∧ BlA w' S v' (overB hs ps) ∧ Below w.heap.size w w' := by
  obtain ⟨xs, hxs, hxL, -, hxD⟩ := hw
  obtain ⟨ys, hys, hyL, -, hyD⟩ := hp
  have hxl : xs.length = hs.length := by rw [← hxs]; simp
  have hyl : ys.length = ps.length := by rw [← hys]; simp
  have hO : LOut enB 1 53 w.heap.size w (.slice none 0 0) ([] : List (List Nat × Sv)) := LOut.nil (Nat.le_refl _)
  have hsz : ([] : List (List Nat × Sv)).length + xs.length ≤ 100000 := by simp; omega
  have hxL' := hxL
  obtain ⟨ao, ca, rfl, -⟩ := hxL
  obtain ⟨bo, cb, rfl, b1, b2, b3⟩ := hyL
  rw [hyl] at b1 b3 ⊢
  unfold maxLen at b2
  have hb63 : (ps.length : Int) ≤ 9223372036854775807 := by omega
  have HXS := Lib.hid hxs
  have HYS := Lib.hid hys
  have HXD := Lib.hid hxD
  have HYD := Lib.hid hyD
  have HXL := Lib.hid hxl
  have HYL := Lib.hid hyl
  have HS0 := Lib.hid hS0
  clear hxs hys hxD hyD hxl hyl hS0
  go_enter Tryz.func32, Tryz.ntmps32
  go_wp2_with (first
    | ((with_reducible refine wpList_appendN elB hO hxL' hsz ?_ ?_ ?_); rfl; rfl; (intro v5 w5 hO5 hg5 hl5; obtain ⟨a5, n5, c5, rfl⟩ := LOut.shape hO5; have HO5 := Lib.hid hO5; have HG5 := Lib.hid hg5; clear hO5 hg5 hl5); go_frame)
    | fail)
  have hB5 : Below w.heap.size w w5 := (Below.refl _ _).grown HG5.out (Nat.le_refl _) fun k hk => by cases hk
  have HB5 := Lib.hid hB5
  clear hB5 hO hxL'
  go_loopw [6] (fun iv wi => ∃ k : Nat, k ≤ ps.length ∧ iv = .int .i64 k ∧ Below w.heap.size w wi ∧ ∃ zs : List (List Nat × Sv), zs.map (·.1) = overB hs (ps.take k) ∧ LOut enB 1 53 w.heap.size wi (.slice a5 n5 c5) zs ∧ ∀ x ∈ zs, LSl en8 1 w (sv x.2) x.1 ∧ ∀ r, (sv x.2).ownBlock = some r → ¬ S r ∧ r < w.heap.size) (fun iv _ => ps.length - (intOf iv).toNat)
  case atStart =>
    have h5 := HO5.out
    rw [List.nil_append] at h5
    exact ⟨0, Nat.zero_le _, rfl, HB5.out, xs, by rw [HXS.out]; rfl, h5, HXD.out⟩
  case round =>
    obtain ⟨k, hk, rfl, hb, zs, hzs, hO, hZ⟩ := hrel
    have hzl : zs.length = hs.length := by
      have := congrArg List.length hzs
      rw [overB_len] at this
      simpa using this
    by_cases hlt : k < ps.length
    · have hd1 : decide (k < ps.length) = true := by simp [hlt]
      have hkl : (k : Int) < (ps.length : Int) := by omega
      obtain ⟨y, hy⟩ : ∃ y, ys[k]? = some y := ⟨_, List.getElem?_eq_getElem (by rw [HYL.out]; exact hlt)⟩
      obtain ⟨b4, o4, rfl, hb4, hc4⟩ := b3 (by omega)
      have hpy : ps[k]? = some y.1 := by rw [← HYS.out, List.getElem?_map, hy]; rfl
      have hly := (hc4 k y hy).below' hb hb4
      have hdy := HYD.out y (List.mem_of_getElem? hy)
      have hsn := overB_snoc hs (ps.take k) y.1
      rw [← take_snoc hpy] at hsn
      obtain ⟨⟨at_, dat⟩, ⟨a1, n1, c1⟩⟩ := y
      have p0 : wr.cell? ⟨b4, o4 + k * 2, none⟩ = some (.int .i64 at_) := hly 0 (by simp [enPt])
      have p1 : wr.cell? ⟨b4, o4 + k * 2 + 1, none⟩ = some (.slice a1 n1 c1) := hly 1 (by simp [enPt, sv])
      rw [overB_len] at hsn
      simp only at hsn hdy
      have HSN := Lib.hid hsn
      have HDY := Lib.hid hdy
      have HZS := Lib.hid hzs
      have HZ := Lib.hid hZ
      have HB := Lib.hid hb
      have HZL := Lib.hid hzl
      obtain ⟨_, _, hv5, _⟩ := hO.sl elB.len
      have hn5 : n5 = zs.length := by
        simp at hv5
        exact hv5.2.1
      subst hn5
      have HO := Lib.hid hO
      have hz63 : (zs.length : Int) ≤ 5000 := by omega
      have hhs : ((hs.length : Nat) : Int) = (zs.length : Int) := by omega
      have HHS := Lib.hid hhs
      clear hsn hdy hzs hZ hb hzl hO hv5 hly hy hpy hc4 b3 hhs
      by_cases hA : at_ < 0
      · have hd2 : decide (0 ≤ at_) = false := by simp; omega
        go_wp2
        go_roundw
        case rel => exact ⟨k + 1, by omega, by go_num, HB.out, zs, by rw [HSN.out, if_neg (by omega), HZS.out], HO.out, HZ.out⟩
        case measure => simp [intOf]; omega
      have hd2 : decide (0 ≤ at_) = true := by simp; omega
      have ha0 : 0 ≤ at_ := by omega
      by_cases hlt2 : at_ < (zs.length : Int)
      · have hd3 : decide (at_ < (zs.length : Int)) = true := by simp [hlt2]
        obtain ⟨at_, rfl⟩ := Int.eq_ofNat_of_zero_le ha0
        have hat : at_ < zs.length := by omega
        obtain ⟨b6, o6, c6, hv6, hb6, hl6⟩ := (HO.out.sl elB.len).at_ (List.getElem?_eq_getElem hat)
        obtain ⟨rfl, rfl⟩ : a5 = some ⟨b6, o6, none⟩ ∧ c5 = c6 := by simpa using hv6
        obtain ⟨rfl, -⟩ := HO.out.whole
        have hset := LOut.set elB.len (HO.out.below (Below.refl _ wr).drew) (i := at_) (j := 0) (y := (dat, (a1, n1, c1))) (u := .slice a1 n1 c1) (List.getElem?_eq_getElem hat) (by decide) rfl
        simp only [Nat.mul_one, Nat.add_zero, Nat.zero_add] at hset
        have hlo := HO.out.lo b6 rfl
        have hbel := HB.out.drew.setCell (p := ⟨b6, at_, none⟩) hlo (.slice a1 n1 c1)
        have hc6 : wr.drew.cell? ⟨b6, at_, none⟩ = some (sv zs[at_].2) := by
          have := hl6 0 (by simp [enB])
          simpa [enB] using this
        have hf6 : wr.drew.frozen? ⟨b6, at_, none⟩ = false := HO.out.frozen at_
        have hS : wr.drew.cell? ⟨b4, o4 + k * 2, none⟩ = some (.int .i64 (at_ : Nat)) ∧ wr.drew.cell? ⟨b4, o4 + k * 2 + 1, none⟩ = some (.slice a1 n1 c1) := ⟨p0, p1⟩
        have HSET := Lib.hid hset
        have HBEL := Lib.hid hbel
        clear hset hbel hv6 hl6
        go_upto_region 7 with fail
        refine wp_region_x (fun w' => w'.cell? ⟨b4, o4 + k * 2, none⟩ = some (.int .i64 (at_ : Nat)) ∧ w'.cell? ⟨b4, o4 + k * 2 + 1, none⟩ = some (.slice a1 n1 c1)) [(0, 1), (1, 1), (2, 1), (3, 1), (4, 1), (5, 0), (6, 1), (7, 1), (8, 1), (9, 1), (10, 0), (11, 1), (12, 3)] (by kernel_rfl) (by kernel_rfl) (by intro d v c a w h; cases d <;> exact h) ?_
        iterate 5 (refine x_take rfl (fun K hK => ?_); go_simp; refine hK _ ?_; clear hK K)
        refine x_read rfl hS (fun w' h => exec_load1 ⟨⟨_, Tryz.underlying3, rfl⟩⟩ rfl h.1) ?_
        iterate 4 (refine x_take rfl (fun K hK => ?_); go_simp; refine hK _ ?_; clear hK K)
        refine x_read rfl hS (fun w' h => exec_load1 ⟨⟨_, Tryz.underlying53, rfl⟩⟩ rfl h.2) ?_
        iterate 1 (refine x_take rfl (fun K hK => ?_); go_simp; refine hK _ ?_; clear hK K)
        refine x_skip rfl (exec_store1 (v := .slice a1 n1 c1) ⟨⟨_, Tryz.underlying53, rfl⟩⟩ (by kernel_rfl) rfl rfl rfl hc6 hf6) ?_
        refine x_nil ?_
        clear hS hc6 hf6 p0 p1
        go_wp2
        go_roundw
        case rel =>
          refine ⟨k + 1, by omega, by go_num, HBEL.out, _, ?_, HSET.out, fun x hx => ?_⟩
          · rw [HSN.out, if_pos ⟨by omega, by have := HHS.out; omega⟩, ← HZS.out, List.map_set]
            rfl
          · rcases List.mem_or_eq_of_mem_set hx with hx | rfl
            · exact HZ.out x hx
            · exact HDY.out
        case measure => simp [intOf]; omega
      · have hd3 : decide (at_ < (zs.length : Int)) = false := by simp; omega
        go_wp2
        go_roundw
        case rel => exact ⟨k + 1, by omega, by go_num, HB.out, zs, by rw [HSN.out, if_neg (by have := HHS.out; omega), HZS.out], HO.out, HZ.out⟩
        case measure => simp [intOf]; omega
    · obtain rfl : k = ps.length := by omega
      have hd1 : decide (ps.length < ps.length) = false := by simp
      rw [List.take_length] at hzs
      have HB := Lib.hid hb
      have HO := Lib.hid hO
      have HZ := Lib.hid hZ
      have HZS := Lib.hid hzs
      clear hb hO hZ hzs
      go_wp2
      go_ret
      refine ⟨_, rfl, ⟨zs, HZS.out, HO.out.sl elB.len, fun r hr => ⟨fun e => ?_, HO.out.lt hr⟩, fun x hx => ⟨(HZ.out x hx).1.below HB.out, fun r hr => ⟨((HZ.out x hx).2 r hr).1, Nat.lt_of_lt_of_le ((HZ.out x hx).2 r hr).2 HB.out.size⟩⟩⟩, HB.out⟩
      have := HO.out.lo r hr
      have := HS0.out r e
      omega
end Go.Proofs.YtbkblhoagfonjaaGreat

/- What RedoAround keeps: plain. -/
namespace Go.Proofs.YtbkblhoagfonjaaGreat
open Go.RowKit Go.Tn Go.Tn.Bt Go.Tn.Lp Go.Tn.Dk
theorem home_getD (l : Lg) (d : Dsk) (k : Nat) : l.home d k = (l.H k).getD (d.get (2 + l.n + k)) := by
  unfold Lg.home
  cases l.H k <;> rfl
theorem set_range (N : Nat) (f : Nat → List Nat) (i : Nat) (b : List Nat) : ((List.range N).map f).set i b = (List.range N).map fun k => if k = i then b else f k := by
  apply List.ext_getElem?
  intro j
  rw [List.getElem?_set, List.length_map, List.length_range, List.getElem?_map, List.getElem?_map]
  by_cases hj : j < N
  · rw [List.getElem?_range hj]
    by_cases h : i = j
    · subst h
      simp [hj]
    · rw [if_neg h]
      simp [show ¬ j = i from fun e => h e.symm]
  · rw [List.getElem?_eq_none (l := List.range N) (by rw [List.length_range]; omega)]
    by_cases h : i = j
    · subst h
      simp [hj]
    · rw [if_neg h]
      rfl
theorem over_take (N : Nat) (g : Nat → List Nat) : ∀ (ps : List Pt) (H : Nat → Option (List Nat)), (∀ p ∈ ps, 0 ≤ p.1 ∧ p.1 < N) → overB ((List.range N).map fun k => (H k).getD (g k)) ps = (List.range N).map fun k => (takeH H ps k).getD (g k)
  | [], H, _ => rfl
  | p :: ps, H, h => by
    have hp := h p List.mem_cons_self
    have ih := over_take N g ps (fun k => if (k : Int) = p.1 then some p.2 else H k) fun q hq => h q (List.mem_cons_of_mem _ hq)
    show overB (if 0 ≤ p.1 ∧ p.1 < ((((List.range N).map fun k => (H k).getD (g k)).length : Nat) : Int) then ((List.range N).map fun k => (H k).getD (g k)).set p.1.toNat p.2 else (List.range N).map fun k => (H k).getD (g k)) ps = (List.range N).map fun k => (takeH (fun k : Nat => if (k : Int) = p.1 then some p.2 else H k) ps k).getD (g k)
    rw [if_pos (by simp; omega), set_range, ← ih]
    congr 1
    refine List.map_congr_left fun k _ => ?_
    by_cases hk : (k : Int) = p.1
    · rw [if_pos (by omega), if_pos hk]
      rfl
    · rw [if_neg (by omega), if_neg hk]
theorem homesB_write {l l' : Lg} {d d' : Dsk} {ps : List Pt} {pcs : List Pc} (hn2 : 2 ≤ l.n) (hn : l'.n = l.n) (hH : l'.H = takeH l.H ps) (hL : d'.L = d.L) (hQ : d'.Q = d.Q ++ ringQ l.n pcs) (ht : transB ps (l.homes d) = true) : homesB l' d' = overB (homesB l d) ps := by
  have hh : l'.homes d' = l.homes d := by unfold Lg.homes; rw [hn, hL]
  unfold homesB
  rw [hh]
  have e1 : l.home d = fun k => (l.H k).getD (d.get (2 + l.n + k)) := funext (home_getD l d)
  have e2 : l'.home d' = fun k => (takeH l.H ps k).getD (d.get (2 + l.n + k)) := funext fun k => homes_write hn2 hn hH hL hQ k
  rw [e1, e2, over_take]
  intro p hp
  have := ((transB_iff ps _).1 ht).2.2.1 p hp
  exact ⟨this.1, this.2.1⟩
/-- No end of heads or ring has a greater epoch. -/
def Ends (d : Dsk) (k E : Nat) : Prop := ∀ i, i < k → (endsB (d.get i)).1 ≤ E ∧ (endsB (d.get i)).2 ≤ E
theorem Ends.newest {d : Dsk} {E : Nat} : ∀ k, Ends d k E → newestB d k ≤ E
  | 0, _ => Nat.zero_le _
  | k + 1, h => by
    have ih := Ends.newest k fun i hi => h i (by omega)
    have h1 := h k (by omega)
    simp only [newestB]
    omega
structure AInv (n i : Nat) (l : Lg) (d : Dsk) (want : List (List Nat)) : Prop where
  rg : ∃ F D P, Rg d l F D P
  calm : Dsk.calm d
  rn : l.n = n
  err : l.err = 0
  len : d.L.length = n + 10
  ep : l.epoch = 1
  ends : Ends d (2 + n) 1
  next : l.next ≤ 100 * i
  gen : l.gen ≤ i
  want : want = homesB l d
  q : d.Q.length ≤ 100 * i
theorem AInv.mono {n i j : Nat} {l : Lg} {d : Dsk} {want : List (List Nat)} (h : AInv n i l d want) (hij : i ≤ j) : AInv n j l d want :=
  ⟨h.rg, h.calm, h.rn, h.err, h.len, h.ep, h.ends, by have := h.next; omega, by have := h.gen; omega, h.want, by have := h.q; omega⟩
theorem AInv.homes {n i : Nat} {l : Lg} {d : Dsk} {want : List (List Nat)} (h : AInv n i l d want) : l.homes d = 8 := by
  unfold Lg.homes
  rw [h.len, h.rn]
  omega
theorem AInv.ok {n i : Nat} {l : Lg} {d : Dsk} {want : List (List Nat)} (h : AInv n i l d want) (hi : i ≤ 1000) : l.ok d := by
  obtain ⟨F, D, P, hr⟩ := h.rg
  exact hr.fit.ok (by have := h.next; omega)
theorem around_init {n : Nat} (h1 : 10 ≤ n) (h2 : n ≤ 16) : AInv n 0 (log0 n 1 0 0) (newD (n + 10)) (homesB (log0 n 1 0 0) (newD (n + 10))) := by
  have hok := newD_ok (n := n + 10) (by omega) (by omega)
  have hL : (newD (n + 10)).L.length = n + 10 := by simp [newD]
  refine ⟨⟨1, [], [], (log0_fit (by omega) (by omega) (by decide) (by decide)), hok, ⟨.inr ⟨head_zero (by omega), rfl, rfl, rfl⟩, trivial, (fun q hq => by cases hq), Nat.le_add_right _ _, Nat.le_refl _, .inl rfl, fun c q c1 c2 hq => ?_⟩, rfl, trivial, rfl, rfl⟩, newD_calm _, rfl, rfl, hL, rfl, ?_, Nat.zero_le _, Nat.zero_le _, rfl, Nat.zero_le _⟩
  · have c2 : c < 0 + n := c2
    have hq : pieceB (newD (n + 10)) n c = some q := hq
    show q.ep < 1
    have hm := Nat.mod_lt c (show 0 < n by omega)
    unfold pieceB at hq
    rw [newd_get (by omega), unseal_zero] at hq
    simp only at hq
    split at hq
    · cases hq
      decide
    · cases hq
  · intro i hi
    rw [newd_get (by omega), ends_zero]
    exact ⟨Nat.zero_le _, Nat.zero_le _⟩
/-- A transaction that there is room for. -/
theorem around_write {n i : Nat} {l : Lg} {d : Dsk} {want : List (List Nat)} (h : AInv n i l d want) (hi : i ≤ 1000) {ps : List Pt} (hb : ∀ p ∈ ps, ∀ x ∈ p.2, x < 256) (ht : transB ps 8 = true) {pcs : List Pc} (hc : cutB l.epoch l.next (recB ps) = .ok pcs) (hf : pcs.length ≤ l.free) (hok : (l.write d ps).2.1.ok) :
    (l.write d ps).2.2 = 0 ∧ AInv n (i + 1) (l.write d ps).1 (l.write d ps).2.1 (overB want ps) := by
  obtain ⟨F, D, P, hr⟩ := h.rg
  have ht' : transB ps (l.homes d) = true := by rw [h.homes]; exact ht
  have hw := write_calm h.calm h.err ht' hc hf
  have hpl : pcs.length ≤ 100 := by
    have hn := recN ht
    have : pcs.length = cutN (recB ps) := by
      unfold cutB at hc
      split at hc
      · cases hc
      · split at hc
        · cases hc
        · cases hc; rw [cutL_len]
    omega
  have hpe : ∀ q ∈ pcs, q.ok ∧ q.ep = 1 := fun q hq => by
    have hg : (⟨l.epoch, ps⟩ : Rc).good 8 l.next := ⟨ht, hb, by
      rw [hc]
      unfold cutB at hc
      split at hc
      · cases hc
      · split at hc
        · cases hc
        · cases hc; rfl⟩
    have hpc : pcs = (⟨l.epoch, ps⟩ : Rc).pcs l.next := by
      have := hg.cut
      rw [hc] at this
      cases this
      rfl
    rw [hpc] at hq
    obtain ⟨j, hj, rfl⟩ := mem_pcs hq
    exact ⟨hg.ok _ hq, h.ep⟩
  rw [hw] at hok ⊢
  simp only at hok ⊢
  refine ⟨trivial, ⟨⟨F, D, _, hr.write ht' hb hc hf rfl rfl hok⟩, ⟨h.calm.fuse, h.calm.on⟩, h.rn, h.err, h.len, h.ep, fun j hj => ?_, by have := h.next; simp only; omega, by have := h.gen; simp only; omega, ?_, ?_⟩⟩
  · have hg : ({ d with Q := d.Q ++ ringQ l.n pcs } : Dsk).get j = seenQ (ringQ l.n pcs) j (d.get j) := by
      unfold Dsk.get
      exact seen_append _ _ _ _
    rw [hg]
    rcases seen_or (ringQ l.n pcs) j (d.get j) with e | ⟨x, hx, _, e⟩
    · rw [e]; exact h.ends j hj
    · rw [e]
      obtain ⟨q, hq, rfl⟩ := List.mem_map.1 hx
      have := hpe q hq
      simp only
      rw [ends_seal this.1, this.2]
      exact ⟨Nat.le_refl _, Nat.le_refl _⟩
  · rw [h.want]
    exact (homesB_write (l := l) (l' := { l with next := l.next + pcs.length, H := takeH l.H ps }) (d := d) (d' := { d with Q := d.Q ++ ringQ l.n pcs }) (pcs := pcs) hr.fit.n2 rfl rfl rfl rfl ht').symm
  · simp only [List.length_append, ringQ, List.length_map]
    have := h.q
    omega
theorem around_check {n i : Nat} {l : Lg} {d : Dsk} {want : List (List Nat)} (h : AInv n i l d want) (hi : i ≤ 1000) (hok : (l.check d).2.1.ok) :
    (l.check d).2.2 = 0 ∧ AInv n (i + 1) (l.check d).1 (l.check d).2.1 want ∧ (l.check d).1.free = n := by
  obtain ⟨F, D, P, hr⟩ := h.rg
  obtain ⟨d', hc, hcalm, hL, hQ, hrg, hho, hlow⟩ := check_calm hr h.calm h.err (by have := h.gen; omega) (by have := h.next; omega)
  rw [hc] at hok ⊢
  simp only at hok ⊢
  have hrg' := hrg hok
  refine ⟨trivial, ⟨⟨_, _, _, hrg'⟩, hcalm, h.rn, h.err, by rw [hL, h.len], h.ep, ?_, by have := h.next; simp only; omega, by have := h.gen; simp only; omega, ?_, by rw [hQ]; exact Nat.zero_le _⟩, ?_⟩
  · intro j hj
    have hj : j < 2 + l.n := by have := h.rn; omega
    rcases hlow j hj with e | e
    · rw [e, ends_seal (headPc_ok hr.fit.epoch (by have := h.gen; simp only; omega))]
      have := h.ep
      simp only [headPc]
      omega
    · rw [e]
      exact h.ends j (by have := h.rn; omega)
  · rw [h.want]
    unfold homesB
    have hh : ({ l with gen := l.gen + 1, tail := l.next, H := fun _ => none } : Lg).homes d' = l.homes d := by unfold Lg.homes; rw [hL]
    rw [hh]
    refine List.map_congr_left fun k hk => ?_
    have := hho k (List.mem_range.1 hk)
    rw [← this]
    rfl
  · show l.n - (l.next - l.next) = n
    rw [h.rn]
    omega
/-- What Write may answer. -/
theorem around_cases {n i : Nat} {l : Lg} {d : Dsk} {want : List (List Nat)} (h : AInv n i l d want) (hi : i ≤ 1000) {ps : List Pt} (h6 : ps.length ≤ 6) :
    (transB ps 8 = false ∧ l.write d ps = (l, d, 2)) ∨ (transB ps 8 = true ∧ ∃ pcs, cutB l.epoch l.next (recB ps) = .ok pcs ∧ pcs.length ≤ l.free) ∨
    (transB ps 8 = true ∧ l.write d ps = (l, d, 8) ∧ ∃ pcs : Nat, pcs ≤ 8 ∧ ∀ l' : Lg, l'.epoch = 1 → l'.next ≤ 1000000 → ∃ ps', cutB l'.epoch l'.next (recB ps) = .ok ps' ∧ ps'.length ≤ 8) := by
  have hh := h.homes
  cases ht : transB ps 8 with
  | false => exact .inl ⟨rfl, write_arg h.err (by rw [hh]; exact ht)⟩
  | true =>
    have hn := recN ht
    have h1 := (transB_iff ps 8).1 ht
    have h2 := recB_len fun p hp => (h1.2.2.1 p hp).2.2
    have h8 : cutN (recB ps) ≤ 8 := by omega
    have hc := cut_ok (ep := l.epoch) (ct := l.next) ht (by have := h.ep; omega) (by have := h.next; omega)
    by_cases hf : cutN (recB ps) ≤ l.free
    · exact .inr (.inl ⟨rfl, _, hc, by rw [cutL_len]; exact hf⟩)
    · refine .inr (.inr ⟨rfl, write_full h.err (by rw [hh]; exact ht) hc (by rw [cutL_len]; omega), 8, Nat.le_refl _, fun l' he hx => ⟨_, cut_ok ht (by omega) (by omega), by rw [cutL_len]; exact h8⟩⟩)
/-- Synced and opened anew: the same homes. -/
theorem around_end {n i : Nat} {l : Lg} {d : Dsk} {want : List (List Nat)} (h : AInv n i l d want) (hi : i ≤ 1000) (hn : 2 ≤ n) : l.sync d = (l, d.flush) ∧ Dsk.calm d.flush ∧ d.flush.L.length = n + 10 ∧ newestB d.flush (2 + n) < 16777215 ∧ ∃ l2, openB d.flush n = some l2 ∧ l2.ok d.flush ∧ homesB l2 d.flush = want := by
  obtain ⟨F, D, P, hr⟩ := h.rg
  have hL : d.flush.L.length = d.L.length := flush_L d
  have hrf : Rg d.flush l F (D ++ P) [] := by
    rw [h.calm.flush]
    refine hr.flush rfl rfl ?_
    have := hr.dok.flush
    rwa [h.calm.flush] at this
  have hg : ∀ j, j < d.L.length → d.flush.get j = d.get j := fun j hj => by
    rw [h.calm.flush]
    exact flush_get rfl rfl hj
  have hlen := h.len
  have hE : Ends d.flush (2 + n) 1 := fun j hj => by
    rw [hg j (by omega)]
    exact h.ends j hj
  have hnew := hE.newest
  have hln := h.rn
  obtain ⟨l2, ho, e1, e2, e3, e4, e5, e6, e7, hr2⟩ := hrf.open_ (by rw [hln]; omega)
  rw [hln] at ho e1
  refine ⟨sync_calm h.calm h.err, by rw [h.calm.flush]; exact ⟨h.calm.fuse, h.calm.on⟩, by rw [hL, hlen], by omega, l2, ho, hr2.fit.ok (by have := h.next; omega), ?_⟩
  rw [h.want]
  have hh : l2.homes d.flush = l.homes d := by unfold Lg.homes; rw [hL, e1, hln]
  unfold homesB
  rw [hh]
  refine List.map_congr_left fun k hk => ?_
  have hk := List.mem_range.1 hk
  rw [home_getD, home_getD, e2, e1, hln, hg]
  rw [h.homes] at hk
  omega
end Go.Proofs.YtbkblhoagfonjaaGreat
