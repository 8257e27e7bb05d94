/- The document's Held: Lose, Open, Reboot, Claim, Claimed, Settled, Grant, Update: that they come back, and leave it whole. -/
import Derived.Test.YthckjciblngaaaaSc
namespace Go.Proofs.Ythckjciblngaaaa
open Go.RowKit Go.Tn Go.Maps Go.Sort Go.Shelf

/-- It is whole behind a call. -/
def RDone (w : World) (xb n : Nat) (S : Nat → Prop) (w' : World) : Prop := ∃ S', RIs w' xb S' n ∧ Step w w' S S'
/-- Some number. -/
def SomeInt (e : Ending) : Prop := ∃ c : Int, e = .returned (.int .i64 c)
theorem RIs.eq {w : World} {xb n : Nat} {S : Nat → Prop} (h : RIs w xb S n) : ∃ xl ph se bo lv R wv W tm sv T, RAt w xb xl ph se bo lv R wv W tm sv T ∧ S = rfoot xb xl lv wv sv ∧ R.length ≤ n ∧ W.length ≤ n ∧ T.length ≤ n := by
  obtain ⟨xl, ph, se, bo, lv, R, wv, W, tm, sv, T, h1, h2, h3⟩ := h
  exact ⟨xl, ph, se, bo, lv, R, wv, W, tm, sv, T, h1, funext fun x => propext (h2 x), h3⟩
theorem RDone.below {w w' : World} {xb n : Nat} {S : Nat → Prop} (h : RIs w xb S n) (hb : Below w.heap.size w w') : RDone w xb n S w' := ⟨S, h.below hb, Step.of_below hb⟩
section
variable {w : World} {xb xl : Nat} {ph se bo : Int} {lv : Value} {R : List RRow} {wv : Value} {W : List Fi} {tm : Int} {sv : Value} {T : List Int}
theorem RAt.done {w' : World} {ph' se' bo' tm' : Int} {lv' wv' sv' : Value} {R' : List RRow} {W' : List Fi} {T' : List Int} {n : Nat} (h' : RAt w' xb xl ph' se' bo' lv' R' wv' W' tm' sv' T') (hm : Mod (rfoot xb xl lv wv sv) w w') (hl : ∀ r, lv'.ownBlock = some r → rfoot xb xl lv wv sv r ∨ w.heap.size ≤ r) (hw : ∀ r, wv'.ownBlock = some r → rfoot xb xl lv wv sv r ∨ w.heap.size ≤ r) (hs : ∀ r, sv'.ownBlock = some r → rfoot xb xl lv wv sv r ∨ w.heap.size ≤ r) (h1 : R'.length ≤ n) (h2 : W'.length ≤ n) (h3 : T'.length ≤ n) : RDone w xb n (rfoot xb xl lv wv sv) w' :=
  ⟨_, ⟨xl, ph', se', bo', lv', R', wv', W', tm', sv', T', h', fun _ => Iff.rfl, h1, h2, h3⟩, hm, fun x hx => by
    rcases hx with hx | hx | hx | hx | hx
    · exact .inl (.inl hx)
    · exact .inl (.inr (.inl hx))
    · exact hl x hx
    · exact hw x hx
    · exact hs x hx⟩
theorem fL {r : Nat} (h : lv.ownBlock = some r) {wz : World} : rfoot xb xl lv wv sv r ∨ wz.heap.size ≤ r := .inl (.inr (.inr (.inl h)))
theorem fW {r : Nat} (h : wv.ownBlock = some r) {wz : World} : rfoot xb xl lv wv sv r ∨ wz.heap.size ≤ r := .inl (.inr (.inr (.inr (.inl h))))
theorem fS {r : Nat} (h : sv.ownBlock = some r) {wz : World} : rfoot xb xl lv wv sv r ∨ wz.heap.size ≤ r := .inl (.inr (.inr (.inr (.inr h))))
theorem mX {a b : World} (h : Mod (fun x => x = xb) a b) : Mod (rfoot xb xl lv wv sv) a b := h.mono fun x _ e => .inl e
theorem mB {a b : World} (h : Below a.heap.size a b) {S : Nat → Prop} : Mod S a b := (Mod.of_below h).mono fun x hx hh => absurd hx (Nat.not_lt.2 hh)
theorem mT {a b c : World} {S : Nat → Prop} (h : Mod S a b) (k : Mod S b c) : Mod S a c := h.trans k (fun _ h => h) (fun _ _ h => h)

theorem rOpen_any (h : RAt w xb xl ph se bo lv R wv W tm sv T) (v : Int) {n : Nat} (h1 : R.length ≤ n) (h2 : W.length ≤ n) (h3 : T.length ≤ n) : Calls Try.prog 34 #[.pointer (some ⟨xb, 0, none⟩), .int .u64 v] w
    fun e w' => SomeInt e ∧ RDone w xb n (rfoot xb xl lv wv sv) w' := by
  have c0 := h.c0
  have c1 := h.c1
  have c2 := h.c2
  have g0 := h.free (o := 0)
  have g2 := h.free (o := 2)
  have hst : RDone w xb n (rfoot xb xl lv wv sv) w := h.done (Mod.refl _ _) (fun r hr => fL hr) (fun r hr => fW hr) (fun r hr => fS hr) h1 h2 h3
  have HST := Lib.hid hst
  have HH := Lib.hid h
  clear h hst
  by_cases hp : ph = 0
  · subst hp
    by_cases hs : se = 0
    · subst hs
      go_enter Try.func34, Try.ntmps34
      go_wp2
      go_ret
      exact ⟨⟨_, rfl⟩, HST.out⟩
    · have t1 : (se == 0) = false := by simpa using hs
      clear hs
      go_enter Try.func34, Try.ntmps34
      go_wp2
      go_ret
      have hm : Mod (fun x => x = xb) w ((w.setCell ⟨xb, 0, none⟩ (.int .i64 2)).setCell ⟨xb, 2, none⟩ (.int .u64 v)) := ((Mod.refl _ _).cell _ _).cell _ _
      exact ⟨⟨_, rfl⟩, (HH.out.turn (heap_setCell_at (heap_setCell_at HH.out.blk)) hm (HH.out.keepL hm) (HH.out.keepW hm) HH.out.ol HH.out.ow).done (mX hm) (fun r hr => fL hr) (fun r hr => fW hr) (fun r hr => fS hr) h1 h2 h3⟩
  · have t1 : (ph != 0) = true := by simpa using hp
    clear hp
    go_enter Try.func34, Try.ntmps34
    go_wp2
    go_ret
    exact ⟨⟨_, rfl⟩, HST.out⟩

theorem rLose_any (h : RAt w xb xl ph se bo lv R wv W tm sv T) (hn : R.length ≤ 1000) (v : Int) {n : Nat} (h1 : R.length ≤ n) (h2 : W.length ≤ n) (h3 : T.length ≤ n) : Calls Try.prog 33 #[.pointer (some ⟨xb, 0, none⟩), .int .u64 v] w
    fun e w' => (∃ u FL, e = .returned u ∧ LSl enF 2 w' u FL) ∧ RDone w xb n (rfoot xb xl lv wv sv) w' := by
  have hall := rAll_any h hn
  have HH := Lib.hid h
  clear h
  go_enter Try.func33, Try.ntmps33
  go_wp2_with fail
  refine hall.mono ?_
  rintro e w2 ⟨⟨u, FL, rfl, hR⟩, hb⟩
  have hA := HH.out.below hb
  have c0 := hA.c0
  have c1 := hA.c1
  have c2 := hA.c2
  have c3 := hA.c3
  have c4 := hA.c4
  have c5 := hA.c5
  have g0 := hA.free (o := 0)
  have g1 := hA.free (o := 1)
  have g2 := hA.free (o := 2)
  have g3 := hA.free (o := 3)
  have g4 := hA.free (o := 4)
  have l1 := cell_of (o := 1) hA.lea rfl
  have k1 := free_of (o := 1) hA.lea
  have hne : (xl == xb) = false := by simpa using fun e => hA.ne e.symm
  have hne2 : xl ≠ xb := fun e => hA.ne e.symm
  have HA := Lib.hid hA
  have HB := Lib.hid hb
  have HR := Lib.hid hR
  clear hA hb hR hall
  go_wp2
  go_ret
  obtain ⟨wa, hwa⟩ : ∃ wa, ((((w2.setCell ⟨xb, 0, none⟩ (.int .i64 0)).setCell ⟨xb, 1, none⟩ (.int .u64 v)).setCell ⟨xb, 2, none⟩ (.int .u64 0)).setCell ⟨xb, 3, none⟩ (.slice none 0 0)).setCell ⟨xb, 4, none⟩ (.slice none 0 0) = wa := ⟨_, rfl⟩
  have hm5 : Mod (fun x => x = xb) w2 wa := by
    rw [← hwa]
    exact (((((Mod.refl _ _).cell _ _).cell _ _).cell _ _).cell _ _).cell _ _
  have hT : RAt wa xb xl 0 v 0 (.slice none 0 0) [] (.slice none 0 0) [] tm sv T := by
    refine HA.out.turn ?_ hm5 (LOut.nil (Nat.zero_le _)) (LOut.nil (Nat.zero_le _)) (fun r hr => by cases hr) (fun r hr => by cases hr)
    rw [← hwa]
    exact heap_setCell_at (heap_setCell_at (heap_setCell_at (heap_setCell_at (heap_setCell_at HA.out.blk))))
  have hF : RAt (wa.setCell ⟨xl, 1, none⟩ (.slice none 0 0)) xb xl 0 v 0 (.slice none 0 0) [] (.slice none 0 0) [] tm (.slice none 0 0) [] :=
    ⟨(heap_setCell_ne (a := ⟨xl, 1, none⟩) hT.ne).trans hT.blk, heap_setCell_at hT.lea, LOut.nil (Nat.zero_le _), LOut.nil (Nat.zero_le _), LOut.nil (Nat.zero_le _), hT.ne, fun r hr => (by cases hr), fun r hr => (by cases hr), fun r hr => (by cases hr)⟩
  have hmF : Mod (rfoot xb xl lv wv sv) w (wa.setCell ⟨xl, 1, none⟩ (.slice none 0 0)) := (mT (mB HB.out) (mX hm5)).setCell _ _ fun _ => .inr (.inl rfl)
  have hx := HH.out.lt xb (.inl rfl)
  have hy := HH.out.lt xl (.inr (.inl rfl))
  rw [hwa]
  refine ⟨⟨_, _, rfl, (HR.out.kept (Nat.le_trans hm5.size (by simp [World.setCell])) fun r hr => ?_).sl⟩, hF.done hmF (fun r hr => by cases hr) (fun r hr => by cases hr) (fun r hr => by cases hr) (Nat.zero_le _) (Nat.zero_le _) (Nat.zero_le _)⟩
  have h7 := HR.out.lo r hr
  have h8 := HR.out.lt r hr
  exact (heap_setCell_ne (a := ⟨xl, 1, none⟩) (show r ≠ xl by omega)).trans (hm5.block r h8 (by omega))
/-- A cell of a row changed. -/
theorem RAt.setRow {b o n cap k j : Nat} {x y : RRow} {u : Value} (h : RAt w xb xl ph se bo (.slice (some ⟨b, o, none⟩) n cap) R wv W tm sv T) (hi : R[k]? = some x) (hj : j < 5) (hy : enRR y = (enRR x).set j u) : RAt (w.setCell ⟨b, o + k * 5 + j, none⟩ u) xb xl ph se bo (.slice (some ⟨b, o, none⟩) n cap) (R.set k y) wv W tm sv T ∧ Mod (rfoot xb xl (.slice (some ⟨b, o, none⟩) n cap) wv sv) w (w.setCell ⟨b, o + k * 5 + j, none⟩ u) := by
  have hm : Mod (fun x => x = b) w (w.setCell ⟨b, o + k * 5 + j, none⟩ u) := (Mod.refl _ _).cell _ _
  obtain ⟨cl, hcl⟩ := LOut.cells h.lst (r := b) rfl
  refine ⟨⟨hm.heap h.blk (fun e => (h.ol b rfl).1 e.symm), hm.heap h.lea (fun e => (h.ol b rfl).2 e.symm), h.lst.set elRR.len hi hj hy, h.wan.kept hm.size fun r hr => hm.block r (h.wan.lt hr) (fun e => ?_), h.snt.kept hm.size fun r hr => hm.block r (h.snt.lt hr) (fun e => ?_), h.ne, h.ol, h.ow, h.os⟩, hm.mono fun x _ e => by subst e; exact .inr (.inr (.inl rfl))⟩
  · obtain ⟨cw, hcw⟩ := LOut.cells h.wan hr
    rw [e, hcl] at hcw
    cases hcw
  · obtain ⟨cw, hcw⟩ := LOut.cells h.snt hr
    rw [e, hcl] at hcw
    cases hcw
theorem RAt.isD (h : RAt w xb xl ph se bo lv R wv W tm sv T) {n : Nat} (h1 : R.length ≤ n) (h2 : W.length ≤ n) (h3 : T.length ≤ n) : RDone w xb n (rfoot xb xl lv wv sv) w := h.done (Mod.refl _ _) (fun r hr => fL hr) (fun r hr => fW hr) (fun r hr => fS hr) h1 h2 h3

set_option maxHeartbeats 2000000 in
theorem rReboot_any (h : RAt w xb xl ph se bo lv R wv W tm sv T) (hn : R.length ≤ 1000) (v : Int) {n : Nat} (h1 : R.length ≤ n) (h2 : W.length ≤ n) (h3 : T.length ≤ n) : Calls Try.prog 35 #[.pointer (some ⟨xb, 0, none⟩), .int .u64 v] w
    fun e w' => SomeInt e ∧ RDone w xb n (rfoot xb xl lv wv sv) w' := by
  have c0 := h.c0
  have c2 := h.c2
  have c4 := h.c4
  have g0 := h.free (o := 0)
  have g2 := h.free (o := 2)
  have g4 := h.free (o := 4)
  have HST := Lib.hid (h.isD h1 h2 h3)
  have hsl := h.lst.sl elRR.len
  obtain ⟨ao, cap, rfl, hcl, hcm, _⟩ := h.lst.sl elRR.len
  unfold maxLen at hcm
  have HH := Lib.hid h
  clear h
  by_cases hp : ph = 0
  · subst hp
    go_enter Try.func35, Try.ntmps35
    go_wp2
    go_ret
    exact ⟨⟨_, rfl⟩, HST.out⟩
  · have t1 : (ph == 0) = false := by simpa using hp
    clear hp
    by_cases hv : v ≤ bo
    · go_enter Try.func35, Try.ntmps35
      go_wp2
      go_ret
      exact ⟨⟨_, rfl⟩, HST.out⟩
    · obtain ⟨wa, hwa⟩ : ∃ wa, ((w.setCell ⟨xb, 0, none⟩ (.int .i64 1)).setCell ⟨xb, 2, none⟩ (.int .u64 v)).setCell ⟨xb, 4, none⟩ (.slice none 0 0) = wa := ⟨_, rfl⟩
      have hm : Mod (fun x => x = xb) w wa := by
        rw [← hwa]
        exact (((Mod.refl _ _).cell _ _).cell _ _).cell _ _
      have hA : RAt wa xb xl 1 se v (.slice ao R.length cap) R (.slice none 0 0) [] tm sv T := by
        refine HH.out.turn ?_ hm (HH.out.keepL hm) (LOut.nil (Nat.zero_le _)) HH.out.ol (fun r hr => by cases hr)
        rw [← hwa]
        exact heap_setCell_at (heap_setCell_at (heap_setCell_at HH.out.blk))
      have HA := Lib.hid hA
      have HM := Lib.hid hm
      have HWA := Lib.hid hwa
      clear hA hm hwa
      go_enter Try.func35, Try.ntmps35
      go_upto_region 4 with (fail)
      rw [HWA.out]
      clear c0 c2 c4 g0 g2 g4
      go_wp2
      go_loopw [5] (fun kv wr => ∃ (k : Nat) (X : List RRow), k ≤ R.length ∧ kv = .int .i64 k ∧ X.length = R.length ∧ RAt wr xb xl 1 se v (.slice ao R.length cap) X (.slice none 0 0) [] tm sv T ∧ Mod (rfoot xb xl (.slice ao R.length cap) wv sv) w wr) (fun kv _ => R.length - (intOf kv).toNat)
      case atStart => exact ⟨0, R, Nat.zero_le _, rfl, rfl, HA.out, mX HM.out⟩
      case round =>
        obtain ⟨k, X, hk, rfl, hXl, hX, hMr⟩ := hrel
        have c3 := hX.c3
        have HX := Lib.hid hX
        have HMR := Lib.hid hMr
        have HXL := Lib.hid hXl
        clear hX hMr hXl
        by_cases hlt : k < R.length
        · have hlt' : (k : Int) < (R.length : Int) := by omega
          have hltX : k < X.length := by have := HXL.out; omega
          obtain ⟨b4, o4, cap4, hveq, hb4, hco⟩ := (HX.out.lst.sl elRR.len).at_ (List.getElem?_eq_getElem hltX)
          obtain ⟨rfl, -, rfl⟩ : ao = some ⟨b4, o4, none⟩ ∧ R.length = X.length ∧ cap = cap4 := by simpa using hveq
          have hget : X[k]? = some X[k] := List.getElem?_eq_getElem hltX
          obtain ⟨⟨ri, rg, rm, rv, rc⟩, hr⟩ : ∃ r, X[k] = r := ⟨_, rfl⟩
          rw [hr] at hco hget
          have hset := HX.out.setRow (j := 4) (y := ⟨ri, rg, rm, rv, false⟩) (u := .bool false) hget (by decide) rfl
          have q4 : wr.cell? ⟨b4, o4 + k * 5 + 4, none⟩ = some (.bool rc) := hco 4 (by simp [enRR])
          have f4 := HX.out.lst.frozen (o4 + k * 5 + 4)
          have HSET := Lib.hid hset
          clear hveq hco hget hr hset hltX
          go_wp2
          go_roundw
          case rel => exact ⟨k + 1, _, by omega, by go_num, by rw [List.length_set]; exact HXL.out, HSET.out.1, HMR.out.trans HSET.out.2 (fun _ h => h) (fun x _ hx => by
            rcases hx with hx | hx | hx | hx | hx
            · exact .inl hx
            · exact .inr (.inl hx)
            · exact .inr (.inr (.inl hx))
            · cases hx
            · exact .inr (.inr (.inr (.inr hx))))⟩
          case measure => simp [intOf]; omega
        · obtain rfl : k = R.length := by omega
          go_wp2
          go_ret
          exact ⟨⟨_, rfl⟩, HX.out.done HMR.out (fun r hr => fL hr) (fun r hr => by cases hr) (fun r hr => fS hr) (by rw [HXL.out]; exact h1) (Nat.zero_le _) h3⟩
end
end Go.Proofs.Ythckjciblngaaaa
