/- slices.AppendSeq, slices.Collect over files, walked. -/
import Derived.Test.YthckjciblngaaaaFf
import Derived.Shelf.SlIterI.Collect
namespace Go.Proofs.Ythckjciblngaaaa
open Go.RowKit Go.Tn Go.Maps Go.Sort Go.Shelf

/-- What is done with each element that comes. -/
def apIs (ca cb : Code) : Prop := match Try.f70.body with
  | some (.seq _ (.seq (.seq _ (.block _ (.rangeFunc _ _ a b))) _)) => a = ca ∧ b = cb
  | _ => False
def apRec (ca cb : Code) (fn : FuncId) (sv : Value) (Bs D : Nat) (st : LoopState) (pend : Option Code) : Loop :=
  { state := st, pending := pend, fn, tmps := #[.slice none 0 0, sv, .pointer (some ⟨Bs, 0, none⟩), undef, .slice none 0 0, undef, sv, undef, undef, undef, undef, undef, undef], params := #[7], assign := ca, body := cb, defers := D }
structure ApAt (ca cb : Code) (w0 : World) (fn : FuncId) (sv : Value) (Bs l D : Nat) (ss : List Fi) (W : World) : Prop where
  box : ∃ v, W.heap[Bs]? = some (.cells #[v] 34 (0, 0)) ∧ LOut enF 2 39 w0.heap.size W v ss
  L : W.heap[l]? = some (.loop (apRec ca cb fn sv Bs D .ready none))
  K : W.heap[D]? = some (.deferred (some []))
  below : Below w0.heap.size w0 W
theorem LOut.cells {α : Type} {en : α → List Value} {k B : Nat} {e : TypeId} {w : World} {v : Value} {xs : List α} (h : LOut en k e B w v xs) {r : Nat} (hr : v.ownBlock = some r) : ∃ cur, w.heap[r]? = some (.cells cur e (0, 0)) := by
  rcases h.own.2 with ⟨hv, _⟩ | ⟨g, cap, cur, hv, _, hg, _⟩
  · rw [hv] at hr; cases hr
  · rw [hv] at hr; cases hr; exact ⟨cur, hg⟩
theorem LOut.turned {α : Type} {en : α → List Value} {k B : Nat} {e : TypeId} {w w' : World} {v : Value} {xs : List α} {row : Option Nat} (h : LOut en k e B w v xs) (hg : w.grownBy w' row) (hr : ∀ r, row = some r → ∀ cur, w.heap[r]? ≠ some (.cells cur e (0, 0))) : LOut en k e B w' v xs :=
  h.kept hg.size fun r hv => hg.block r (h.lt hv) fun e => by
    obtain ⟨cur, hc⟩ := LOut.cells h hv
    exact hr r e.symm cur hc

theorem ap_abides (ca cb : Code) (w0 : World) (fn : FuncId) (sv : Value) (Bs l D B : Nat) (hB : w0.heap.size ≤ B) : AbidesFrom B (ApAt ca cb w0 fn sv Bs l D) := fun s W W' row h hg hrow => by
  have hrow' : ∀ r, row = some r → ∃ o : Obj, W.heap[r]? = some o ∧ o.isWalk = true := fun r e => (hrow r e).2
  obtain ⟨v, hv, hr⟩ := h.box
  exact ⟨⟨v, (grownBy_keeps hg hrow' hv rfl).trans hv, LOut.turned hr hg fun r e cur hc => by
    obtain ⟨o, h1, h2⟩ := hrow' r e
    rw [hc] at h1; cases h1; cases h2⟩, (grownBy_keeps hg hrow' h.L rfl).trans h.L, (grownBy_keeps hg hrow' h.K rfl).trans h.K,
    h.below.grown hg h.below.size (fun k e => Nat.le_trans hB (hrow k e).1)⟩

theorem exec_append_of {P : Program} {ρ : Operand → Value} {dst : Option Tmp} {ty : TypeId} {pos : String} {after : Array Edge} {g : Option (Nat × Bool)} {t : TypeId} {s x : Operand} {v u v' : Value} {w w' : World} (hr : (Builtin.append_ #[t, t] ty #[v, u]).run P w = .ok v' w') (hs : ρ s = v) (hx : ρ x = u) :
    (execOp ρ ⟨dst, .call { callee := .builtin .append, args := #[s, x], argTypes := #[t, t] }, ty, pos, after, g⟩).run P w = .ok (.value v') w' := by
  simp only [execOp, resolve, invoke, builtin, Sem.run_bind, Sem.run_pure, Result.andThen_ok, List.map_toArray, List.map_cons, List.map_nil, hs, hx, hr]

set_option maxRecDepth 100000 in
set_option maxHeartbeats 4000000 in
theorem apYield (ca cb : Code) (hcode : apIs ca cb) (m : Nat) (w0 : World) (fn : FuncId) (sv : Value) (Bs l D : Nat) (hBl : Bs ≠ l) (hDl : D ≠ l) (hDB : D ≠ Bs) (h0B : w0.heap.size ≤ Bs) (h0l : w0.heap.size ≤ l)
    (N : Nat) (hN : N ≤ 1000) (ss : List Fi) (x : Fi) (W : World) (h : ApAt ca cb w0 fn sv Bs l D ss W) (hlen : ss.length < N) :
    YieldAt Fence.wide m Try.prog l #[encF x] W fun e W' => e = .returned (.bool true) ∧ ApAt ca cb w0 fn sv Bs l D (ss ++ [x]) W' ∧ KeepsWalks W W' := by
  obtain ⟨fi, fg⟩ := x
  obtain ⟨v, hv, hrow⟩ := h.box
  refine ⟨fn, #[.slice none 0 0, sv, .pointer (some ⟨Bs, 0, none⟩), undef, .slice none 0 0, undef, sv, .agg #[.int .i64 fi, .int .i64 fg], undef, undef, undef, undef, undef], ca, cb, by simpa [apRec, encF] using run_yield (P := Try.prog) (args := #[encF (fi, fg)]) h.L rfl, roundIn_of_wpIn trivial ?_⟩
  have hl : l < W.heap.size := (Array.getElem?_eq_some_iff.1 h.L).1
  obtain ⟨W1, hW1⟩ : ∃ W1, W.alloc (.cells #[.int .i64 fi, .int .i64 fg] 39) = W1 := ⟨_, rfl⟩
  have hg1 : W.grownBy W1 none := by rw [← hW1]; exact alloc_grown W _
  have hk1 : KeepsWalks W W1 := by rw [← hW1]; exact KeepsWalks.alloc W _
  have hs1 : W1.heap.size = W.heap.size + 1 := by rw [← hW1]; simp
  have hbx1 : W1.heap[W.heap.size]? = some (.cells #[.int .i64 fi, .int .i64 fg] 39 (0, 0)) := by rw [← hW1]; exact heap_alloc_at
  have hbW : ∀ {r : Nat} {o : Obj}, W.heap[r]? = some o → W1.heap[r]? = some o := fun hr => (hg1.block _ (lt_of_block hr) (by simp)).trans hr
  have hL1 := hbW h.L
  have hv1 := hbW hv
  have hK1 := hbW h.K
  have hrow1 : LOut enF 2 39 w0.heap.size W1 v ss := LOut.turned hrow hg1 fun r e => by cases e
  have hb1 : Below w0.heap.size w0 W1 := h.below.grown hg1 h.below.size (fun k e => by cases e)
  have hbr := run_beginRound (P := Try.prog) hL1 rfl
  obtain ⟨W2, hW2⟩ : ∃ W2, W1.putObj l (.loop { apRec ca cb fn sv Bs D .ready none with state := .busy }) = W2 := ⟨_, rfl⟩
  rw [hW2] at hbr
  have hg2 : W1.grownBy W2 (some l) := by rw [← hW2]; exact grownBy_putObj_a _ _ _
  have hk2 : KeepsWalks W1 W2 := by rw [← hW2]; exact KeepsWalks.putObj _ hL1 rfl
  have hv2 : W2.heap[Bs]? = some (.cells #[v] 34 (0, 0)) := by rw [← hW2]; exact (World.putObj_heap_other hBl).trans hv1
  have hK2 : W2.heap[D]? = some (.deferred (some [])) := by rw [← hW2]; exact (World.putObj_heap_other hDl).trans hK1
  have hL2 : W2.heap[l]? = some (.loop { apRec ca cb fn sv Bs D .ready none with state := .busy }) := by rw [← hW2]; exact World.putObj_heap_same (by omega)
  have hbx2 : W2.heap[W.heap.size]? = some (.cells #[.int .i64 fi, .int .i64 fg] 39 (0, 0)) := by rw [← hW2]; exact (World.putObj_heap_other (by omega)).trans hbx1
  have hrow2 : LOut enF 2 39 w0.heap.size W2 v ss := LOut.turned hrow1 hg2 fun r e cur hc => by cases e; rw [hL1] at hc; cases hc
  have hb2 : Below w0.heap.size w0 W2 := hb1.grown hg2 hb1.size (fun k e => by cases e; exact h0l)
  obtain ⟨hc2, hf2⟩ := cell_of_box_a hv2
  have q0 : W2.cell? ⟨W.heap.size, 0, none⟩ = some (.int .i64 fi) := cell_of hbx2 rfl
  have q1 : W2.cell? ⟨W.heap.size, 1, none⟩ = some (.int .i64 fg) := cell_of hbx2 rfl
  -- the append, ahead of the walk
  have hal : W2.grownBy (W2.alloc (.cells #[.int .i64 fi, .int .i64 fg] 39)) none := alloc_grown W2 _
  have hrow3 : LOut enF 2 39 w0.heap.size (W2.alloc (.cells #[.int .i64 fi, .int .i64 fg] 39)) v ss := LOut.turned hrow2 hal fun r e => by cases e
  have hlit : LSl enF 2 (W2.alloc (.cells #[.int .i64 fi, .int .i64 fg] 39)) (.slice (some ⟨W2.heap.size, 0, none⟩) 1 1) [(fi, fg)] := LSl.lit elF.len 39
  obtain ⟨v', w3, hrun, hO, hg3, _⟩ := run_appendM elF (ty := 34) hrow3 hlit (by simp; omega)
  have ne_of : ∀ {j : Nat} {o : Obj}, W2.heap[j]? = some o → (∀ cur, o ≠ .cells cur 39 (0, 0)) → some j ≠ v.ownBlock := fun hj hno e => by
    obtain ⟨cur, hc⟩ := LOut.cells hrow2 e.symm
    rw [hj] at hc
    exact hno cur (Option.some.inj hc)
  have hkeep : ∀ {j : Nat} {o : Obj}, W2.heap[j]? = some o → (∀ cur, o ≠ .cells cur 39 (0, 0)) → w3.heap[j]? = some o := fun hj hno =>
    (hg3.block _ (by simp; have := lt_of_block hj; omega) (ne_of hj hno)).trans (heap_alloc_of hj)
  have hv3 : w3.heap[Bs]? = some (.cells #[v] 34 (0, 0)) := hkeep hv2 fun cur e => by cases e
  have hL3 := hkeep hL2 fun cur e => by cases e
  have hK3 := hkeep hK2 fun cur e => by cases e
  obtain ⟨hc3, hf3⟩ := cell_of_box_a hv3
  have hb3 : Below w0.heap.size w0 w3 := (hb2.grown hal hb2.size (fun k e => by cases e)).grown hg3 (by have := hb2.size; simp; omega) hrow3.lo
  have hk3 : KeepsWalks W w3 := ((hk1.trans hk2).trans (KeepsWalks.alloc _ _)).trans (KeepsWalks.of_grownBy hg3 fun j o hj ho => by
    obtain ⟨cur, hc⟩ := LOut.cells hrow3 hj
    rw [ho] at hc; cases hc; rfl)
  have hsl := hO.own.2
  obtain ⟨g', cap', cur', rfl, _⟩ : ∃ g' cap' cur', v' = .slice (some ⟨g', 0, none⟩) (ss ++ [(fi, fg)]).length cap' ∧ w3.heap[g']? = some (.cells cur' 39 (0, 0)) := by
    rcases hsl with ⟨_, h0⟩ | ⟨g', cap', cur', h1, _, h2, _⟩
    · simp at h0
    · exact ⟨g', cap', cur', h1, h2⟩
  obtain ⟨w4, hw4⟩ : ∃ w4, w3.setCell ⟨Bs, 0, none⟩ (.slice (some ⟨g', 0, none⟩) (ss ++ [(fi, fg)]).length cap') = w4 := ⟨_, rfl⟩
  have hg4 : w3.grownBy w4 (some Bs) := by rw [← hw4]; exact grownBy_setCell0_a _ _ _
  have hv4 : w4.heap[Bs]? = some (.cells #[.slice (some ⟨g', 0, none⟩) (ss ++ [(fi, fg)]).length cap'] 34 (0, 0)) := by rw [← hw4]; exact heap_setCell_box_a _ hv3
  have hL4 := (hg4.block l (lt_of_block hL3) (fun e => hBl (by cases e; rfl))).trans hL3
  have hK4 := (hg4.block D (lt_of_block hK3) (fun e => hDB (by cases e; rfl))).trans hK3
  have hO4 := LOut.turned hO hg4 fun r e cur hc => by cases e; rw [hv3] at hc; cases hc
  have hb4 : Below w0.heap.size w0 w4 := hb3.grown hg4 hb3.size (fun k e => by cases e; exact h0B)
  have hk4 : KeepsWalks W w4 := hk3.trans (by rw [← hw4]; exact KeepsWalks.setCell _ _ _)
  have hend := run_endRound (P := Try.prog) none hL4
  have hlen' : (ss ++ [(fi, fg)]).length ≤ 1001 := by simp; omega
  -- what lies behind the round
  have hfin : ApAt ca cb w0 fn sv Bs l D (ss ++ [(fi, fg)]) (w4.putObj l (.loop { { apRec ca cb fn sv Bs D .ready none with state := .busy } with state := if (none : Option Code).isNone then .ready else .done, pending := none })) :=
    ⟨⟨_, (World.putObj_heap_other hBl).trans hv4, LOut.turned hO4 (grownBy_putObj_a _ _ _) fun r e cur hc => by cases e; rw [hL4] at hc; cases hc⟩, World.putObj_heap_same (lt_of_block hL4), (World.putObj_heap_other hDl).trans hK4, hb4.grown (grownBy_putObj_a _ _ _) hb4.size (fun k e => by cases e; exact h0l)⟩
  have hkf := hk4.trans (KeepsWalks.putObj (.loop { { apRec ca cb fn sv Bs D .ready none with state := .busy } with state := if (none : Option Code).isNone then .ready else .done, pending := none }) hL4 rfl)
  have HF := Lib.hid hfin
  have HK := Lib.hid hkf
  have HE := Lib.hid hend
  have HR := Lib.hid hrun
  have H4 := Lib.hid hw4
  have H1 := Lib.hid hW1
  generalize (ss ++ [(fi, fg)]).length = len' at *
  unfold apIs at hcode
  simp only [Try.f70] at hcode
  obtain ⟨rfl, rfl⟩ := hcode
  clear hfin hkf hend hrun hw4 hW1 hW2 hO hO4 hb4 hk4 hb3 hk3 hsl hrow3 hrow2 hrow1 hrow hlit hal hv4 hL4 hK4 hv2 hL2 hK2 hbx2 hbx1 hv1 hL1 hK1 hv hg1 hg2 hg3 hg4 hk1 hk2 hb1 hb2 hL3 hK3 h hkeep ne_of hbW
  gi_wp2_with gi_round_op_a
  rw [H1.out]
  refine ⟨W2, hbr, ?_⟩
  gi_wp2_with (first
    | ((with_reducible refine wpListIn_exec rfl rfl (fun c h => by cases h) (exec_append_of HR.out ?_ ?_) ?_); rfl; rfl; go_frame)
    | gi_round_op_a)
  rw [H4.out]
  exact ⟨_, _, HE.out, rfl, HF.out, HK.out⟩

set_option maxRecDepth 100000 in
set_option maxHeartbeats 4000000 in
theorem appendSeq_in (ca cb : Code) (hcode : apIs ca cb) (n : Nat) (hn : 2 ≤ n) (g : Nat) (lb : Array Value) (eg : ∀ args w, (callFunc g args).run Try.prog w = .ok (.enter g args) w)
    (S : List Fi → Prop) (N : Nat) (hN : N ≤ 1000) (w : World) (hseq : SeqGives Fence.wide (n - 1) Try.prog g lb encF S N w) :
    CallsIn Fence.wide n Try.prog 70 #[.slice none 0 0, .func (.func g) #[] lb] w fun e w' => ∃ (v : Value) (ss : List Fi), e = .returned v ∧ S ss ∧ LOut enF 2 39 w.heap.size w' v ss ∧ Below w.heap.size w w' := by
  have hcode' := hcode
  unfold apIs at hcode
  simp only [Try.f70] at hcode
  obtain ⟨hca, hcb⟩ := hcode
  have HA := Lib.hid hca
  have HB := Lib.hid hcb
  clear hca hcb
  refine callsIn_of_wp_marks Try.func70 rfl trivial ?_ rfl
  simp only [Try.ntmps70, List.size_toArray, List.length_cons, List.length_nil, Nat.reduceAdd, Nat.reduceSub, Array.replicate_succ, Array.replicate_zero, List.push_toArray, List.append_toArray, List.nil_append, List.cons_append]
  gi_wp2
  refine wpIn_rangeFunc ?_
  rw [HA.out, HB.out]
  intro fn hfn
  obtain ⟨W0, hW0⟩ : ∃ W0, w.alloc (.cells #[.slice none 0 0] 34) = W0 := ⟨_, rfl⟩
  have hs0 : W0.heap.size = w.heap.size + 1 := by rw [← hW0]; simp
  have hv0 : W0.heap[w.heap.size]? = some (.cells #[.slice none 0 0] 34 (0, 0)) := by rw [← hW0]; exact World.alloc_heap_new w _
  have hb0 : Below w.heap.size w W0 := by rw [← hW0]; exact (Below.refl _ w).alloc (Nat.le_refl _) _
  rw [hW0]
  obtain ⟨W1, hW1⟩ : ∃ W1, (W0.alloc (.deferred (some []))).alloc (.loop (apRec ca cb fn (.func (.func g) #[] lb) w.heap.size W0.heap.size .ready none)) = W1 := ⟨_, rfl⟩
  have hold : ∀ k, k < W0.heap.size → W1.heap[k]? = W0.heap[k]? := fun k hk => by
    rw [← hW1]; exact (Below.heap_alloc _ _ k (by simp; omega)).trans (Below.heap_alloc _ _ k hk)
  have hb1 : Below w.heap.size w W1 := by rw [← hW1]; exact (hb0.alloc hb0.size _).alloc (by have := hb0.size; simp; omega) _
  have hs1 : W1.heap.size = W0.heap.size + 2 := by rw [← hW1]; simp
  have hM : ApAt ca cb w fn (.func (.func g) #[] lb) w.heap.size (W0.heap.size + 1) W0.heap.size [] W1 :=
    ⟨⟨_, (hold w.heap.size (by omega)).trans hv0, LOut.nil (by omega)⟩,
     by rw [← hW1]; have := World.alloc_heap_new (W0.alloc (.deferred (some []))) (.loop (apRec ca cb fn (.func (.func g) #[] lb) w.heap.size W0.heap.size .ready none)); rwa [World.size_alloc] at this,
     by rw [← hW1]; exact (Below.heap_alloc _ _ _ (by simp)).trans (World.alloc_heap_new W0 _), hb1⟩
  refine ⟨W0.heap.size + 1, [{ target := .collected W0.heap.size, args := #[] }], W1, { target := .fn (.func g) lb, args := #[.func (.yield (W0.heap.size + 1)) #[] #[]] }, W1, g,
    #[.func (.yield (W0.heap.size + 1)) #[] #[]] ++ lb, W1, ?_, ?_, ?_, ?_, fun _ => (by omega), ?_⟩
  · rw [← hW1]; exact run_enterLoop_outer _ _ _ _ _
  · simp [resolve, go_sem]
  · intro f' hf'; trivial
  · simp [invoke, go_sem, eg]
  · refine (hseq (W0.heap.size + 1) (ApAt ca cb w fn (.func (.func g) #[] lb) w.heap.size (W0.heap.size + 1) W0.heap.size) W1 hb1 (ap_abides ca cb _ _ _ _ _ _ _ hb1.size)
      (fun pre x W hJ hl => apYield ca cb hcode' (n - 1 - 1) w fn _ w.heap.size (W0.heap.size + 1) W0.heap.size (by omega) (by omega) (by omega) (Nat.le_refl _) (by omega) N hN pre x W hJ hl) hM).mono ?_
    rintro e W2 ⟨⟨v0, rfl⟩, ss, hS, h2⟩
    obtain ⟨v, hv, hrow⟩ := h2.box
    have hend := run_endLoop (P := Try.prog) h2.L (by simp [apRec])
    obtain ⟨W3, hW3⟩ : ∃ W3, W2.putObj (W0.heap.size + 1) (.loop { apRec ca cb fn (.func (.func g) #[] lb) w.heap.size W0.heap.size .ready none with state := .exhausted }) = W3 := ⟨_, rfl⟩
    rw [hW3] at hend
    have hg3 : W2.grownBy W3 (some (W0.heap.size + 1)) := by rw [← hW3]; exact grownBy_putObj_a _ _ _
    have hv3 : W3.heap[w.heap.size]? = some (.cells #[v] 34 (0, 0)) := by rw [← hW3]; exact (World.putObj_heap_other (by omega)).trans hv
    have hK3 : W3.heap[W0.heap.size]? = some (.deferred (some [])) := by rw [← hW3]; exact (World.putObj_heap_other (by omega)).trans h2.K
    have hrow3 : LOut enF 2 39 w.heap.size W3 v ss := LOut.turned hrow hg3 fun r e cur hc => by cases e; rw [h2.L] at hc; cases hc
    have hb3 : Below w.heap.size w W3 := h2.below.grown hg3 h2.below.size (fun k e => by cases e; omega)
    obtain ⟨hc3, hf3⟩ := cell_of_box_a hv3
    clear hW3
    refine ⟨none, W3, hend, ?_⟩
    gi_wp2
    rw [← hs0]
    refine ⟨by simp, .inl ⟨_, _, rfl, run_takeDeferred hK3, ?_⟩⟩
    exact ⟨_, results_tmp rfl _ _ _, v, ss, rfl, hS, LOut.turned hrow3 (grownBy_putObj_a _ _ _) (fun r e cur hc => by cases e; rw [hK3] at hc; cases hc), hb3.grown (grownBy_putObj_a _ _ _) hb3.size (fun k e => by cases e; omega)⟩
theorem collect_in (n : Nat) (hn : 3 ≤ n) (g : Nat) (lb : Array Value) (eg : ∀ args w, (callFunc g args).run Try.prog w = .ok (.enter g args) w)
    (S : List Fi → Prop) (N : Nat) (hN : N ≤ 1000) (w : World) (hseq : SeqGives Fence.wide (n - 1 - 1) Try.prog g lb encF S N w) :
    CallsIn Fence.wide n Try.prog 61 #[.func (.func g) #[] lb] w fun e w' => ∃ (v : Value) (ss : List Fi), e = .returned v ∧ S ss ∧ LOut enF 2 39 w.heap.size w' v ss ∧ Below w.heap.size w w' := by
  have hap := fun W h => appendSeq_in _ _ (by exact ⟨rfl, rfl⟩) (n - 1) (by omega) g lb eg S N hN W h
  refine callsIn_of_wp Try.func61 rfl trivial ?_ rfl
  simp only [Try.ntmps61, List.size_toArray, List.length_cons, List.length_nil, Nat.reduceAdd, Nat.reduceSub, Array.replicate_succ, Array.replicate_zero, List.push_toArray, List.append_toArray, List.nil_append, List.cons_append]
  gi_wp2
  refine ⟨trivial, (fun _ => by omega), (hap _ hseq).mono ?_⟩
  rintro e w' ⟨v, ss, rfl, hS, hrow, hb⟩
  gi_wp2
  go_ret
  exact ⟨v, ss, rfl, hS, hrow, hb⟩
end Go.Proofs.Ythckjciblngaaaa
