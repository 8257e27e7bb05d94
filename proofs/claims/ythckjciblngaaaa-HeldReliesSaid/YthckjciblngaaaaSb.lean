/- The document's Held: All, drop, Before, put walked. -/
import Derived.Test.YthckjciblngaaaaSa
import Derived.Test.YthckjciblngaaaaHb
namespace Go.Proofs.Ythckjciblngaaaa
open Go.RowKit Go.Tn Go.Maps Go.Sort Go.Shelf

section
variable {w : World} {xb xl : Nat} {ph se bo : Int} {lv : Value} {R : List RRow} {wv : Value} {W : List Fi} {tm : Int} {sv : Value} {T : List Int}
/-- Its own cells changed. -/
theorem RAt.turn {w' : World} {ph' se' bo' : Int} {lv' : Value} {R' : List RRow} {wv' : Value} {W' : List Fi} (h : RAt w xb xl ph se bo lv R wv W tm sv T) (hb : w'.heap[xb]? = some (.cells #[.int .i64 ph', .int .u64 se', .int .u64 bo', lv', wv', .pointer (some ⟨xl, 0, none⟩)] 36 (0, 0))) (hm : Mod (fun x => x = xb) w w') (hl : LOut enRR 5 89 0 w' lv' R') (hw : LOut enF 2 39 0 w' wv' W') (ol : ∀ r, lv'.ownBlock = some r → r ≠ xb ∧ r ≠ xl) (ow : ∀ r, wv'.ownBlock = some r → r ≠ xb ∧ r ≠ xl) : RAt w' xb xl ph' se' bo' lv' R' wv' W' tm sv T :=
  ⟨hb, hm.heap h.lea (fun e => h.ne e.symm), hl, hw, h.snt.kept hm.size fun r hr => hm.block r (h.snt.lt hr) (fun e => (h.os r hr).1 e), h.ne, ol, ow, h.os⟩
theorem RAt.keepL {w' : World} (h : RAt w xb xl ph se bo lv R wv W tm sv T) (hm : Mod (fun x => x = xb) w w') : LOut enRR 5 89 0 w' lv R := h.lst.kept hm.size fun r hr => hm.block r (h.lst.lt hr) (fun e => (h.ol r hr).1 e)
theorem RAt.keepW {w' : World} (h : RAt w xb xl ph se bo lv R wv W tm sv T) (hm : Mod (fun x => x = xb) w w') : LOut enF 2 39 0 w' wv W := h.wan.kept hm.size fun r hr => hm.block r (h.wan.lt hr) (fun e => (h.ow r hr).1 e)

theorem aggRR (r : RRow) : AggT Try.prog 89 (#[.int .i64 r.i, .int .i64 r.g, .int .i64 r.m, .int .u64 r.v, .bool r.c] : Array Value).size := ⟨⟨_, Try.underlying89, rfl⟩, by kernel_rfl⟩
theorem _root_.Go.Tn.Lies.drewN {w : World} {b o : Nat} {cs : Array Value} (h : Lies w b o cs) (n : Nat) : Lies (w.drewN n) b o cs := fun j hj => h j hj
set_option maxHeartbeats 1000000 in
theorem rAll_any (h : RAt w xb xl ph se bo lv R wv W tm sv T) (hn : R.length ≤ 1000) : Calls Try.prog 56 #[.pointer (some ⟨xb, 0, none⟩)] w
    fun e w' => (∃ v FL, e = .returned v ∧ LRd enF 2 w.heap.size w' v FL) ∧ Below w.heap.size w w' := by
  have hsl := h.lst.sl elRR.len
  obtain ⟨ao, cap, rfl, hcl, hcm, _⟩ := h.lst.sl elRR.len
  unfold maxLen at hcm
  have HH := Lib.hid h
  clear h
  go_enter Try.func56, Try.ntmps56
  go_wp2
  go_loopw [3, 4] (fun ov kv wr => ∃ (k : Nat) (FL : List Fi), k ≤ R.length ∧ kv = .int .i64 k ∧ LOut enF 2 39 w.heap.size wr ov FL ∧ FL.length ≤ k ∧ Below w.heap.size w wr) (fun _ kv _ => R.length - (intOf kv).toNat)
  case atStart => exact ⟨0, [], Nat.zero_le _, rfl, LOut.nil (Nat.le_refl _), Nat.le_refl _, Below.refl _ _⟩
  case round =>
    obtain ⟨k, FL, hk, rfl, hO, hfl, hbr⟩ := hrel
    have c3 := (HH.out.below hbr).c3
    by_cases hlt : k < R.length
    · have hlt' : (k : Int) < (R.length : Int) := by omega
      obtain ⟨b4, o4, cap4, hveq, hb4, hco⟩ := hsl.at_ (List.getElem?_eq_getElem hlt)
      obtain ⟨rfl, rfl⟩ : ao = some ⟨b4, o4, none⟩ ∧ cap = cap4 := by simpa using hveq
      have hl := hco.below' hbr hb4
      clear hco hveq
      generalize R[k] = r at *
      obtain ⟨ri, rg, rm, rv, rc⟩ := r
      have hlF : Lies wr b4 (o4 + k * 5) #[.int .i64 ri, .int .i64 rg] := fun j hj => by
        match j, hj with
        | 0, _ => exact hl 0 (by simp [enRR])
        | 1, _ => exact hl 1 (by simp [enRR])
      have HLF := Lib.hid hlF
      have hol : FL.length ≤ 1000 := by omega
      clear hl hlF
      go_wp2_with (first
        | ((with_reducible refine wpList_loadA (aggF ri rg) HLF.out ?_ ?_); rfl; go_frame)
        | ((with_reducible refine wpList_append1 elF hO (ri, rg) hol ?_ ?_ ?_ ?_); rfl; rfl; rfl; (intro v2 w4 hO4 hb4'); go_frame)
        | fail)
      refine ⟨⟨k + 1, FL ++ [(ri, rg)], by omega, by go_num, hO4, by rw [List.length_append]; simp; omega, hbr.trans hb4'⟩, by simp [intOf]; omega⟩
    · obtain rfl : k = R.length := by omega
      go_wp2
      go_ret
      exact ⟨⟨_, _, rfl, hO.rd elF.len⟩, hbr⟩

set_option maxRecDepth 20000 in
set_option maxHeartbeats 4000000 in
theorem rdrop_any (h : RAt w xb xl ph se bo lv R wv W tm sv T) (hn : R.length ≤ 1000) (i g : Int) : Calls Try.prog 58 #[.pointer (some ⟨xb, 0, none⟩), .agg #[.int .i64 i, .int .i64 g]] w
    fun e w' => e = .returned (.tuple #[]) ∧ (∃ lv' R', RAt w' xb xl ph se bo lv' R' wv W tm sv T ∧ R'.length ≤ R.length ∧ ∀ r, lv'.ownBlock = some r → w.heap.size ≤ r) ∧ Mod (fun x => x = xb) w w' := by
  obtain ⟨w1, hw1⟩ : ∃ w1, w.alloc (.cells #[.int .i64 i, .int .i64 g] 39) = w1 := ⟨_, rfl⟩
  have hW : Below w.heap.size w w1 := by rw [← hw1]; exact (Below.refl _ _).alloc (Nat.le_refl _) _
  have hsz1 : w1.heap.size = w.heap.size + 1 := by rw [← hw1]; simp
  have hbox : Lies w1 w.heap.size 0 #[.int .i64 i, .int .i64 g] := by rw [← hw1]; exact box_file
  have h1 := h.below hW
  have hsl := h1.lst.sl elRR.len
  obtain ⟨ao, cap, rfl, hcl, hcm, _⟩ := h1.lst.sl elRR.len
  unfold maxLen at hcm
  have HB := Lib.hid hbox
  have H1 := Lib.hid hw1
  have HS := Lib.hid hsz1
  have HH := Lib.hid h1
  have HHO := Lib.hid h
  have hxb := h.lt xb (.inl rfl)
  have hxl := h.lt xl (.inr (.inl rfl))
  clear h hbox hw1 hsz1 h1
  go_enter Try.func58, Try.ntmps58
  go_upto_region 1 with (fail)
  rw [H1.out]
  go_wp2
  go_loopw [4, 5] (fun ov kv wr => ∃ (k : Nat) (X : List RRow), k ≤ R.length ∧ kv = .int .i64 k ∧ LOut enRR 5 89 w1.heap.size wr ov X ∧ X.length ≤ k ∧ Below w1.heap.size w1 wr) (fun _ kv _ => R.length - (intOf kv).toNat)
  case atStart => exact ⟨0, [], Nat.zero_le _, rfl, LOut.nil (Nat.le_refl _), Nat.le_refl _, Below.refl _ _⟩
  case round =>
    obtain ⟨k, X, hk, rfl, hO, hfl, hbr⟩ := hrel
    have hHr := HH.out.below hbr
    have c3 := hHr.c3
    have HHR := Lib.hid hHr
    have HBR := Lib.hid hbr
    clear hHr
    by_cases hlt : k < R.length
    · have hlt' : (k : Int) < (R.length : Int) := by omega
      obtain ⟨b4, o4, cap4, hveq, hb4, hco⟩ := hsl.at_ (List.getElem?_eq_getElem hlt)
      obtain ⟨rfl, rfl⟩ : ao = some ⟨b4, o4, none⟩ ∧ cap = cap4 := by simpa using hveq
      have hl := hco.below' hbr hb4
      have hX := HB.out.below' hbr (by have := HS.out; omega)
      clear hco hveq
      generalize R[k] = r at *
      obtain ⟨ri, rg, rm, rv, rc⟩ := r
      have q0 : wr.cell? ⟨b4, o4 + k * 5, none⟩ = some (.int .i64 ri) := hl 0 (by simp [enRR])
      have q1 : wr.cell? ⟨b4, o4 + k * 5 + 1, none⟩ = some (.int .i64 rg) := hl 1 (by simp [enRR])
      have p0 : wr.cell? ⟨w.heap.size, 0, none⟩ = some (.int .i64 i) := hX 0 (by simp)
      have p1 : wr.cell? ⟨w.heap.size, 1, none⟩ = some (.int .i64 g) := hX 1 (by simp)
      have HL := Lib.hid hl
      have HO := Lib.hid hO
      have hol : X.length ≤ 1000 := by omega
      clear hl hX hbr hO
      by_cases hh : ri = i ∧ rg = g
      · obtain ⟨rfl, rfl⟩ := hh
        go_wp2
        go_quiet (fail)
        go_wp2
        go_roundw
        case rel => exact ⟨k + 1, X, by omega, by go_num, HO.out.below (below_drewN (Below.refl _ _) _), by omega, below_drewN HBR.out _⟩
        case measure => simp [intOf]; omega
      · have hcase : (ri == i) = false ∨ (ri = i ∧ (rg == g) = false) := by
          by_cases h1 : ri = i
          · exact .inr ⟨h1, by simpa using fun h2 => hh ⟨h1, h2⟩⟩
          · exact .inl (by simpa using h1)
        clear hh
        rcases hcase with t | ⟨rfl, t⟩
        all_goals
          go_wp2
          go_quiet (fail)
          go_wp2_with (first
            | ((with_reducible refine wpList_loadA (aggRR ⟨ri, rg, rm, rv, rc⟩) (HL.out.drewN nq) ?_ ?_); rfl; go_frame)
            | ((with_reducible refine wpList_append1 elRR (HO.out.below (below_drewN (Below.refl _ _) nq)) ⟨ri, rg, rm, rv, rc⟩ hol ?_ ?_ ?_ ?_); rfl; rfl; rfl; (intro v2 w4 hO4 hb4'); go_frame)
            | fail)
          refine ⟨⟨k + 1, _, by omega, by go_num, hO4, by rw [List.length_append]; simp; omega, (below_drewN HBR.out nq).trans hb4'⟩, by simp [intOf]; omega⟩
    · obtain rfl : k = R.length := by omega
      obtain ⟨va, vn, vc, rfl⟩ := LOut.shape hO
      have f3 := HHR.out.free (o := 3)
      have HO := Lib.hid hO
      clear hO hbr
      go_wp2
      go_end0
      have hm1 : Mod (fun x => x = xb) wr (wr.setCell ⟨xb, 3, none⟩ (.slice va vn vc)) := (Mod.refl _ _).cell _ _
      have hsw := hW.size
      have hB : Below w.heap.size w wr := hW.trans (HBR.out.mono hsw)
      have hlo : ∀ r, (Value.slice va vn vc).ownBlock = some r → w.heap.size ≤ r := fun r hr => Nat.le_trans hsw (HO.out.lo r hr)
      refine ⟨rfl, ⟨_, _, HHR.out.turn (heap_setCell_at HHR.out.blk) hm1 ((HO.out.mono (Nat.zero_le _)).kept hm1.size fun r hr => hm1.block r (HO.out.lt hr) (fun e => by have := hlo r hr; omega)) (HHR.out.keepW hm1) (fun r hr => by have := hlo r hr; exact ⟨by omega, by omega⟩) HHR.out.ow, hfl, hlo⟩, ?_⟩
      exact ((Mod.of_below hB).mono (T := fun x => x = xb) fun x hx hh => absurd hx (Nat.not_lt.2 hh)).trans hm1 (fun _ h => h) (fun _ _ h => h)
end
end Go.Proofs.Ythckjciblngaaaa
