/- slices.IndexFunc, DeleteFunc, Index, Contains over files; Give, Want, Ack: walked. -/
import Derived.Test.YthckjciblngaaaaHc
namespace Go.Proofs.Ythckjciblngaaaa
open Go.RowKit Go.Tn Go.Maps Go.Sort Go.Shelf

/-- Whether two files are one. -/
def fEq (a b : Fi) : Bool := decide (a = b)
theorem fEq_cases (a b : Fi) : (a.1 = b.1 ∧ a.2 = b.2 ∧ fEq a b = true) ∨ (a.1 ≠ b.1 ∧ fEq a b = false) ∨ (a.1 = b.1 ∧ a.2 ≠ b.2 ∧ fEq a b = false) := by
  unfold fEq
  by_cases h1 : a.1 = b.1
  · by_cases h2 : a.2 = b.2
    · exact .inl ⟨h1, h2, decide_eq_true (Prod.ext h1 h2)⟩
    · exact .inr (.inr ⟨h1, h2, decide_eq_false fun e => h2 (by rw [e])⟩)
  · exact .inr (.inl ⟨h1, decide_eq_false fun e => h1 (by rw [e])⟩)
/-- The closure of Give. -/
abbrev giveFn (fx : Nat) : Value := .func (.func 52) #[] #[.pointer (some ⟨fx, 0, none⟩)]
theorem giveF_any (w : World) (fx : Nat) (f a : Fi) (h : Lies w fx 0 #[.int .i64 f.1, .int .i64 f.2]) : Calls Try.prog 52 #[.agg #[.int .i64 a.1, .int .i64 a.2], .pointer (some ⟨fx, 0, none⟩)] w fun e w' => e = .returned (.bool (fEq a f)) ∧ Below w.heap.size w w' := by
  have hb : Below w.heap.size w (w.alloc (.cells #[.int .i64 a.1, .int .i64 a.2] 39)) := (Below.refl _ _).alloc (Nat.le_refl _) _
  have hx : fx < w.heap.size := World.block_lt_of_cell? w _ (h 0 (by simp))
  have h1 := h.below' hb hx
  have p0 : (w.alloc (.cells #[.int .i64 a.1, .int .i64 a.2] 39)).cell? ⟨fx, 0, none⟩ = some (.int .i64 f.1) := h1 0 (by simp)
  have p1 : (w.alloc (.cells #[.int .i64 a.1, .int .i64 a.2] 39)).cell? ⟨fx, 1, none⟩ = some (.int .i64 f.2) := h1 1 (by simp)
  have hc := fEq_cases a f
  clear h h1
  obtain ⟨ai, ag⟩ := a
  obtain ⟨fi, fg⟩ := f
  obtain ⟨r, hr⟩ : ∃ r, fEq (ai, ag) (fi, fg) = r := ⟨_, rfl⟩
  simp only at hc p0 p1 hb hx
  rw [hr] at hc ⊢
  clear hr
  rcases hc with ⟨rfl, rfl, rfl⟩ | ⟨h, rfl⟩ | ⟨rfl, h, rfl⟩
  · go_enter Try.func52, Try.ntmps52
    go_wp2
    go_ret
    exact ⟨rfl, hb⟩
  · have t : (ai == fi) = false := by simpa using h
    clear h
    go_enter Try.func52, Try.ntmps52
    go_wp2
    go_ret
    exact ⟨rfl, hb⟩
  · have t : (ag == fg) = false := by simpa using h
    clear h
    go_enter Try.func52, Try.ntmps52
    go_wp2
    go_ret
    exact ⟨rfl, hb⟩

set_option maxHeartbeats 1000000 in
theorem indexFunc_any (w : World) (v : Value) (W : List Fi) (h : LSl enF 2 w v W) (fx : Nat) (f : Fi) (hf : Lies w fx 0 #[.int .i64 f.1, .int .i64 f.2]) : Calls Try.prog 67 #[v, giveFn fx] w
    fun e w' => (∃ r : Int, e = .returned (.int .i64 r) ∧ ((r = -1 ∧ f ∉ W) ∨ ∃ k : Nat, r = k ∧ W[k]? = some f ∧ f ∉ W.take k)) ∧ Below w.heap.size w w' := by
  have h0 := h
  have hx : fx < w.heap.size := World.block_lt_of_cell? w _ (hf 0 (by simp))
  obtain ⟨ao, cap, rfl, hcl, hcm, _⟩ := h
  unfold maxLen at hcm
  have HF := Lib.hid hf
  have H0 := Lib.hid h0
  clear hf h0
  go_enter Try.func67, Try.ntmps67
  go_wp2
  go_loopw [8] (fun kv wr => ∃ k : Nat, k ≤ W.length ∧ kv = .int .i64 k ∧ f ∉ W.take k ∧ Below w.heap.size w wr) (fun kv _ => W.length - (intOf kv).toNat)
  case atStart => exact ⟨0, Nat.zero_le _, rfl, by simp, Below.refl _ _⟩
  case round =>
    obtain ⟨k, hk, rfl, hn, hbr⟩ := hrel
    have HN := Lib.hid hn
    clear hn
    by_cases hlt : k < W.length
    · have hlt' : (k : Int) < (W.length : Int) := by omega
      obtain ⟨b4, o4, cap4, hveq, hb4, hco⟩ := H0.out.at_ (List.getElem?_eq_getElem hlt)
      obtain ⟨rfl, rfl⟩ : ao = some ⟨b4, o4, none⟩ ∧ cap = cap4 := by simpa using hveq
      have hl := hco.below' hbr hb4
      have hget : W[k]? = some W[k] := List.getElem?_eq_getElem hlt
      have hmore : fEq W[k] f = false → f ∉ W.take (k + 1) := fun he hm => by
        rw [List.take_succ_eq_append_getElem hlt, List.mem_append, List.mem_singleton] at hm
        rcases hm with hm | rfl
        · exact HN.out hm
        · simp [fEq] at he
      have hyes : fEq W[k] f = true → W[k] = f := fun he => by simpa [fEq] using he
      have HG := Lib.hid hget
      have HM := Lib.hid hmore
      have HY := Lib.hid hyes
      clear hco hveq hget hmore hyes
      generalize W[k] = a at *
      have hcall := giveF_any wr fx f a (HF.out.below' hbr hx)
      obtain ⟨ai, ag⟩ := a
      have q0 : wr.cell? ⟨b4, o4 + k * 2, none⟩ = some (.int .i64 ai) := hl 0 (by simp [enF])
      have q1 : wr.cell? ⟨b4, o4 + k * 2 + 1, none⟩ = some (.int .i64 ag) := hl 1 (by simp [enF])
      have HC := Lib.hid hcall
      have HBR := Lib.hid hbr
      clear hl hcall hbr
      go_wp2_with fail
      refine HC.out.mono ?_
      rintro e w2 ⟨rfl, hb2⟩
      have HB2 := Lib.hid (HBR.out.trans (hb2.mono HBR.out.size))
      obtain ⟨r, hr⟩ : ∃ r, fEq (ai, ag) f = r := ⟨_, rfl⟩
      rw [hr]
      cases r
      · have HZ := Lib.hid (HM.out hr)
        clear hr hb2 q0 q1
        go_wp2
        go_roundw
        case rel => exact ⟨k + 1, by omega, by go_num, HZ.out, HB2.out⟩
        case measure => simp [intOf]; omega
      · have hy := HY.out hr
        have HZ := Lib.hid hy
        clear hr hb2 q0 q1 hy
        go_wp2
        go_ret
        exact ⟨⟨_, rfl, .inr ⟨k, rfl, by rw [HG.out, HZ.out], HN.out⟩⟩, HB2.out⟩
    · obtain rfl : k = W.length := by omega
      go_wp2
      go_ret
      exact ⟨⟨_, rfl, .inl ⟨rfl, fun hm => HN.out (by rw [List.take_of_length_le (Nat.le_refl _)]; exact hm)⟩⟩, hbr⟩

/-! ### DeleteFunc -/
def ne_ (f a : Fi) : Bool := !fEq a f
theorem filter_take_yes {W : List Fi} {f : Fi} {q : Nat} (hq : q < W.length) (h : fEq W[q] f = true) : (W.take (q + 1)).filter (ne_ f) = (W.take q).filter (ne_ f) := by
  rw [List.take_succ_eq_append_getElem hq, List.filter_append]
  have : ([W[q]].filter (ne_ f)) = [] := by simp [ne_, h]
  rw [this, List.append_nil]
theorem filter_take_no {W : List Fi} {f : Fi} {q : Nat} (hq : q < W.length) (h : fEq W[q] f = false) : (W.take (q + 1)).filter (ne_ f) = (W.take q).filter (ne_ f) ++ [W[q]] := by
  rw [List.take_succ_eq_append_getElem hq, List.filter_append]
  have : ([W[q]].filter (ne_ f)) = [W[q]] := by simp [ne_, h]
  rw [this]
theorem filter_same {W : List Fi} {f : Fi} (h : f ∉ W) : W.filter (ne_ f) = W := by
  rw [List.filter_eq_self]
  intro a ha
  unfold ne_ fEq
  have : a ≠ f := fun e => h (e ▸ ha)
  simp [this]
theorem zeroF : ∀ w, (zeroValue 39).run Try.prog w = .ok (.agg #[.int .i64 0, .int .i64 0]) w := fun w => by kernel_rfl
theorem sizeF : (Try.prog.info? 39).map (·.size) = some 2 := by kernel_rfl
theorem zeroF_size : (Value.agg #[.int .i64 0, .int .i64 0]).cells.size = 2 := rfl
theorem zeroF_one (n : Nat) : ∀ v ∈ (Builtin.zeroCells (Value.agg #[.int .i64 0, .int .i64 0]).cells n).toList, v.oneCell' = true := fun v hv => by
  unfold Builtin.zeroCells at hv
  simp only [Array.toList_map, List.mem_map, Value.cells] at hv
  obtain ⟨i, _, rfl⟩ := hv
  have h2 : i % 2 = 0 ∨ i % 2 = 1 := by omega
  rcases h2 with h2 | h2 <;> simp [h2, Value.oneCell']
/-- Where DeleteFunc's loop stands. -/
structure Del (w : World) (v : Value) (W : List Fi) (f : Fi) (g : Nat) (p q : Nat) (X : List Fi) (wr : World) : Prop where
  lt : p < q
  le : q ≤ W.length
  len : X.length = W.length
  own : LOut enF 2 39 0 wr v X
  pre : X.take p = (W.take q).filter (ne_ f)
  suf : X.drop q = W.drop q
  mod : Mod (fun x => x = g) w wr
theorem Del.below {w wr w' : World} {v : Value} {W : List Fi} {f : Fi} {g p q : Nat} {X : List Fi} (h : Del w v W f g p q X wr) (hb : Below wr.heap.size wr w') : Del w v W f g p q X w' :=
  ⟨h.lt, h.le, h.len, h.own.below hb, h.pre, h.suf, h.mod.trans (Mod.of_below hb) (fun _ h => h) fun x hx hh => absurd (Nat.lt_of_lt_of_le hx h.mod.size) (Nat.not_lt.2 hh)⟩
theorem Del.get {w wr : World} {v : Value} {W : List Fi} {f : Fi} {g p q : Nat} {X : List Fi} (h : Del w v W f g p q X wr) (hq : q < W.length) : X[q]? = some W[q] := by
  have h1 : (X.drop q)[0]? = (W.drop q)[0]? := by rw [h.suf]
  rw [List.getElem?_drop, List.getElem?_drop, Nat.add_zero, List.getElem?_eq_getElem hq] at h1
  exact h1
theorem Del.skip {w wr : World} {v : Value} {W : List Fi} {f : Fi} {g p q : Nat} {X : List Fi} (h : Del w v W f g p q X wr) (hq : q < W.length) (he : fEq W[q] f = true) : Del w v W f g p (q + 1) X wr :=
  ⟨by have := h.lt; omega, hq, h.len, h.own, by rw [h.pre, filter_take_yes hq he], by
    rw [← List.drop_drop, ← List.drop_drop, h.suf], h.mod⟩
theorem Del.put {w wr : World} {W : List Fi} {f : Fi} {g n cap p q : Nat} {X : List Fi} (h : Del w (.slice (some ⟨g, 0, none⟩) n cap) W f g p q X wr) (hq : q < W.length) (he : fEq W[q] f = false) : Del w (.slice (some ⟨g, 0, none⟩) n cap) W f g (p + 1) (q + 1) (X.set p W[q]) (wr.setCells g (p * 2) (enF W[q])) := by
  have hpq := h.lt
  have hpX : p < X.length := by have := h.len; omega
  refine ⟨by omega, hq, by rw [List.length_set, h.len], h.own.setA elF.len hpX W[q], ?_, ?_, Mod.setCells (S := fun x => x = g) (fun _ => rfl) _ _ _ h.mod⟩
  · rw [filter_take_no hq he, ← h.pre]
    have hps : p < (X.set p W[q]).length := by rw [List.length_set]; exact hpX
    rw [List.take_succ_eq_append_getElem hps, List.take_set_of_le (Nat.le_refl _)]
    simp
  · rw [List.drop_set_of_lt (by omega), ← List.drop_drop, ← List.drop_drop, h.suf]
set_option maxRecDepth 20000 in
set_option maxHeartbeats 400000 in
theorem deleteFunc_any (w : World) (v : Value) (W : List Fi) (h : LOut enF 2 39 0 w v W) (fx : Nat) (f : Fi) (hf : Lies w fx 0 #[.int .i64 f.1, .int .i64 f.2]) (hfx : ∀ r, v.ownBlock = some r → r ≠ fx) : Calls Try.prog 51 #[v, giveFn fx] w
    fun e w' => (∃ v', e = .returned v' ∧ LOut enF 2 39 0 w' v' (W.filter (ne_ f)) ∧ (∀ r, v'.ownBlock = some r → v.ownBlock = some r)) ∧ Mod (fun x => v.ownBlock = some x) w w' := by
  have hi := indexFunc_any w v W (h.sl elF.len) fx f hf
  have HF := Lib.hid hf
  have HH := Lib.hid h
  obtain ⟨a0, n0, c0, rfl⟩ := LOut.shape h
  obtain ⟨F, hF⟩ : ∃ F, W.filter (ne_ f) = F := ⟨_, rfl⟩
  rw [hF]
  have HFF := Lib.hid hF
  have HFX := Lib.hid hfx
  clear hf h hF hfx
  go_enter Try.func51, Try.ntmps51
  go_wp2_with fail
  refine hi.mono ?_
  rintro e w2 ⟨⟨r, rfl, hr⟩, hb2⟩
  have h2 := HH.out.below hb2
  have hM2 : Mod (fun x => (Value.slice a0 n0 c0).ownBlock = some x) w w2 := (Mod.of_below hb2).mono fun x hx hh => absurd hx (Nat.not_lt.2 hh)
  rcases hr with ⟨rfl, hno⟩ | ⟨k, rfl, hk, hno⟩
  · have hres : LOut enF 2 39 0 w2 (.slice a0 n0 c0) F := by rw [← HFF.out, filter_same hno]; exact h2
    have HR := Lib.hid hres
    have HM := Lib.hid hM2
    clear hres hno h2 hM2 hi
    go_wp2
    go_ret
    exact ⟨⟨_, rfl, HR.out, fun r hr => hr⟩, HM.out⟩
  · have hklt := (List.getElem?_eq_some_iff.1 hk).1
    obtain ⟨⟨g, o0, s0⟩, ha⟩ : ∃ a, a0 = some a := by
      cases a0 with
      | some a => exact ⟨a, rfl⟩
      | none =>
        exfalso
        rcases h2.own with ⟨_, ⟨_, hn⟩ | ⟨g, c, cur, hv, _⟩⟩
        · omega
        · cases hv
    subst ha
    obtain ⟨rfl, rfl⟩ : o0 = 0 ∧ s0 = none := by
      rcases h2.own with ⟨_, ⟨hv, _⟩ | ⟨g, c, cur, hv, _⟩⟩
      · cases hv
      · simp at hv; exact ⟨hv.1.2.1, hv.1.2.2⟩
    obtain ⟨-, rfl, hnc, hcm, -⟩ := h2.whole
    unfold maxLen at hcm
    have hD : Del w2 (.slice (some ⟨g, 0, none⟩) W.length c0) W f g k (k + 1) W w2 := by
      refine ⟨Nat.lt_succ_self _, hklt, rfl, h2, ?_, rfl, Mod.refl _ _⟩
      have he : fEq W[k] f = true := by
        rw [List.getElem?_eq_getElem hklt] at hk
        have := Option.some.inj hk
        rw [this]
        simp [fEq]
      rw [filter_take_yes hklt he, filter_same hno]
    have HD := Lib.hid hD
    have HM2 := Lib.hid hM2
    have hk0 : (0 : Int) ≤ (k : Int) := by omega
    have hk1 : ((k : Int) == -1) = false := by
      have h1 : (k : Int) ≠ -1 := by omega
      exact beq_eq_false_iff_ne.2 h1
    have hfg : fx ≠ g := fun e => HFX.out g rfl e.symm
    have hF2 := HF.out.below' hb2 (World.block_lt_of_cell? w _ (HF.out 0 (by simp)))
    have HF2 := Lib.hid hF2
    clear hD hM2 hk hno hi h2 hF2
    go_wp2
    go_loopw [5, 6] (fun iv jv wr => ∃ (p q : Nat) (X : List Fi), iv = .int .i64 p ∧ jv = .int .i64 q ∧ Del w2 (.slice (some ⟨g, 0, none⟩) W.length c0) W f g p q X wr) (fun _ jv _ => W.length - (intOf jv).toNat)
    case atStart => exact ⟨k, k + 1, W, rfl, by go_num, HD.out⟩
    case round =>
      obtain ⟨p, q, X, rfl, rfl, hD⟩ := hrel
      have hpq := hD.lt
      have hqn := hD.le
      have HDr := Lib.hid hD
      clear HD
      by_cases hlt : q < W.length
      · have hlt' : (q : Int) < (W.length : Int) := by omega
        have hget := hD.get hlt
        obtain ⟨b4, o4, cap4, hveq, hb4, hl⟩ := (hD.own.sl elF.len).at_ hget
        obtain ⟨⟨rfl, rfl⟩, -, rfl⟩ : (g = b4 ∧ 0 = o4) ∧ W.length = X.length ∧ c0 = cap4 := by simpa using hveq
        have hskip : fEq W[q] f = true → ∀ w', Below wr.heap.size wr w' → Del w2 (.slice (some ⟨g, 0, none⟩) W.length c0) W f g p (q + 1) X w' := fun he w' hb => (HDr.out.below hb).skip hlt he
        have hput : fEq W[q] f = false → ∀ w', Below wr.heap.size wr w' → Del w2 (.slice (some ⟨g, 0, none⟩) W.length c0) W f g (p + 1) (q + 1) (X.set p W[q]) (w'.setCells g (p * 2) (enF W[q])) := fun he w' hb => (HDr.out.below hb).put hlt he
        obtain ⟨a, haW⟩ : ∃ a, W[q] = a := ⟨_, rfl⟩
        rw [Nat.zero_add] at hl
        rw [haW] at hl hskip hput
        have HS := Lib.hid hskip
        have HP := Lib.hid hput
        have hFr : Lies wr fx 0 #[.int .i64 f.1, .int .i64 f.2] := fun j hj => (World.cell?_of_block (a := ⟨fx, 0 + j, none⟩) (HDr.out.mod.block fx (World.block_lt_of_cell? w2 _ (HF2.out 0 (by simp))) hfg)).trans (HF2.out j hj)
        have hal : Below wr.heap.size wr (wr.alloc (.cells #[.int .i64 a.1, .int .i64 a.2] 39)) := (Below.refl _ _).alloc (Nat.le_refl _) _
        have hcall := giveF_any (wr.alloc (.cells #[.int .i64 a.1, .int .i64 a.2] 39)) fx f a (hFr.below' hal (World.block_lt_of_cell? wr _ (hFr 0 (by simp))))
        have HC := Lib.hid hcall
        have HL := Lib.hid hl
        have HAL := Lib.hid hal
        clear hD hget hveq haW hskip hput hFr hcall hl hal
        obtain ⟨ai, ag⟩ := a
        go_wp2_with (first
          | ((with_reducible refine wpList_loadA (aggF ai ag) HL.out ?_ ?_); rfl; go_frame)
          | fail)
        refine HC.out.mono ?_
        rintro e w3 ⟨rfl, hb3⟩
        have HB3 := Lib.hid (HAL.out.trans (hb3.mono HAL.out.size))
        have x0 : w3.cell? ⟨wr.heap.size, 0, none⟩ = some (.int .i64 ai) := (hb3.cell (p := ⟨wr.heap.size, 0, none⟩) (by show wr.heap.size < _; simp)).trans (cell_of heap_alloc_at rfl)
        have x1 : w3.cell? ⟨wr.heap.size, 1, none⟩ = some (.int .i64 ag) := (hb3.cell (p := ⟨wr.heap.size, 1, none⟩) (by show wr.heap.size < _; simp)).trans (cell_of heap_alloc_at rfl)
        obtain ⟨r, hr⟩ : ∃ r, fEq (ai, ag) f = r := ⟨_, rfl⟩
        rw [hr]
        cases r
        · have hD3 := HP.out hr w3 HB3.out
          have HD3 := Lib.hid hD3
          obtain ⟨-, -, -, -, cur, hcur, hcs, -⟩ := (HDr.out.below HB3.out).own.whole
          have hcs2 : p * 2 + 2 ≤ cur.size := by omega
          have HCUR := Lib.hid hcur
          have hp' : (p : Int) < (W.length : Int) := by omega
          clear hr hb3 hD3 hcur hcs
          go_wp2_with (first
            | ((with_reducible refine wpList_execSkip rfl (exec_storeA (aggF ai ag) ?_ ?_ HCUR.out hcs2 ?_) ?_); go_simp; rfl; (intro v hv; simp at hv; rcases hv with rfl | rfl <;> rfl); go_frame)
            | fail)
          go_roundw
          case rel => exact ⟨p + 1, q + 1, _, by go_num, by go_num, HD3.out⟩
          case measure => simp [intOf]; omega
        · have hD3 := HS.out hr w3 HB3.out
          have HD3 := Lib.hid hD3
          clear hr hb3 hD3 x0 x1
          go_wp2
          go_roundw
          case rel => exact ⟨p, q + 1, X, rfl, by go_num, HD3.out⟩
          case measure => simp [intOf]; omega
      · obtain rfl : q = W.length := by omega
        have hpn : p ≤ W.length := by omega
        have hpc : p ≤ c0 := by omega
        have hcp : ¬ c0 = p := by omega
        obtain ⟨-, -, -, -, cur, hcur, hcs, -⟩ := hD.own.whole
        have had : (if c0 = p then some (⟨g, 0, none⟩ : Addr) else (some (⟨g, 0, none⟩ : Addr)).map (·.add (p * 2))) = some ⟨g, p * 2, none⟩ := by
          rw [if_neg hcp]
          simp [addr_add]
        obtain ⟨n1, hn1⟩ : ∃ n1, W.length - p = n1 := ⟨_, rfl⟩
        obtain ⟨c1, hc1⟩ : ∃ c1, c0 - p = c1 := ⟨_, rfl⟩
        have hpc' : (p : Int) ≤ (c0 : Int) := by omega
        have hp0 : (0 : Int) ≤ (p : Int) := by omega
        have hn0 : 0 < n1 := by omega
        have hroom : p * 2 + n1 * 2 ≤ cur.size := by omega
        have hcut := hD.own.cut elF.len (i := p) (by have := hD.len; omega) (Builtin.zeroCells (Value.agg #[.int .i64 0, .int .i64 0]).cells n1).toList
        rw [hD.pre, List.take_of_length_le (Nat.le_refl _), HFF.out] at hcut
        have hmF : Mod (fun x => x = g) w2 (wr.setCells g (p * 2) (Builtin.zeroCells (Value.agg #[.int .i64 0, .int .i64 0]).cells n1).toList) := Mod.setCells (S := fun x => x = g) (fun _ => rfl) _ _ _ hD.mod
        have hclr := run_clearSl (P := Try.prog) (k := 2) (ty := 0) (c := c1) Try.underlying34 zeroF zeroF_size zeroF_one hcur hroom hn0
        obtain ⟨wX, hwX⟩ : ∃ wX, wr.setCells g (p * 2) (Builtin.zeroCells (Value.agg #[.int .i64 0, .int .i64 0]).cells n1).toList = wX := ⟨_, rfl⟩
        rw [hwX] at hcut hmF hclr
        have HCU := Lib.hid hcut
        have HMF := Lib.hid hmF
        have HAD := Lib.hid had
        have HN1 := Lib.hid hn1
        have HC1 := Lib.hid hc1
        have HCUR := Lib.hid hcur
        clear hD had hn1 hc1 hcur hcs hcut hmF hwX
        go_upto_region 12 with (first
          | ((with_reducible refine wpList_exec rfl (exec_sliceLo2 Try.underlying34 sizeF hpn HAD.out HN1.out HC1.out ?_ ?_) ?_); rfl; rfl; go_frame)
          | fail)
        go_wp2
        go_ret
        refine ⟨⟨_, rfl, HCU.out, fun r hr => by cases hr; rfl⟩, HM2.out.trans HMF.out (fun _ h => h) fun x _ e => by subst e; rfl⟩
end Go.Proofs.Ythckjciblngaaaa
