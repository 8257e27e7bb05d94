import Derived.Test.YtbdjkbaieokbhaaWd
namespace Go.Proofs.Ytbdjkbaieokbhaa
open Go.RowKit Go.Tn Go.Tn.Ghost

theorem agg52 (p : Pl) : encP p = .agg #[.int .i64 p.c, .int .i64 p.i, .int .i64 p.g, .int .i64 p.a] := rfl

/-- The box of a place, in a later world. -/
theorem box_lies {w : World} {n : Nat} {p : Pl} (h : w.heap[n]? = some (.cells #[.int .i64 p.c, .int .i64 p.i, .int .i64 p.g, .int .i64 p.a] 52 (0, 0))) :
    w.cell? ⟨n, 0, none⟩ = some (.int .i64 p.c) ∧ w.cell? ⟨n, 1, none⟩ = some (.int .i64 p.i) ∧ w.cell? ⟨n, 2, none⟩ = some (.int .i64 p.g) ∧ w.cell? ⟨n, 3, none⟩ = some (.int .i64 p.a) :=
  ⟨cell_of h rfl, cell_of h rfl, cell_of h rfl, cell_of h rfl⟩

theorem Book.cells {B b bf bo bl co cl : Nat} {w : World} {S : St} {Lo Ll : Ents Pl} (h : Book B w b S bf bo bl Lo co Ll cl) :
    w.cell? ⟨b, 0, none⟩ = some (.slice (some ⟨bf, 0, none⟩) S.fates.length S.fates.length) ∧ w.cell? ⟨b, 1, none⟩ = some (.map (some bo)) ∧ w.cell? ⟨b, 2, none⟩ = some (.map (some bl)) :=
  ⟨cell_of h.blk rfl, cell_of h.blk rfl, cell_of h.blk rfl⟩

theorem Book.of_mod {B b bf bo bl co cl : Nat} {w w' : World} {S : St} {Lo Ll : Ents Pl} {M : Nat → Prop} (h : Book B w b S bf bo bl Lo co Ll cl) (hm : Mod M w w')
    (hM : ∀ x, M x → x < B ∨ w.heap.size ≤ x) : Book B w' b S bf bo bl Lo co Ll cl := by
  have far : ∀ x, B ≤ x → x < w.heap.size → w'.heap[x]? = w.heap[x]? := fun x h1 h2 => hm.block x h2 (fun hx => by have := hM x hx; omega)
  exact ⟨(far b h.lo.1 (lt_of_block h.blk)).trans h.blk, (far bf h.lo.2.1 (lt_of_block h.fts)).trans h.fts,
    h.o.kept (far bo h.lo.2.2.1 (lt_of_block h.o.blk)) (fun p r hr => far r (h.rowO p r hr).1 (Own1.lt (h.o.own p) hr)),
    h.l.kept (far bl h.lo.2.2.2 (lt_of_block h.l.blk)) (fun p r hr => far r (h.rowL p r hr).1 (Own1.lt (h.l.own p) hr)),
    h.nbf, h.nol, h.rowO, h.rowL, h.lo, h.rO, h.rL⟩
theorem Book.alloc {B b bf bo bl co cl : Nat} {w : World} {S : St} {Lo Ll : Ents Pl} (h : Book B w b S bf bo bl Lo co Ll cl) (o : Obj) : Book B (w.alloc o) b S bf bo bl Lo co Ll cl :=
  h.of_mod ((Mod.refl (fun _ => False) w).alloc o) (fun _ hx => hx.elim)
theorem Book.drew {B b bf bo bl co cl : Nat} {w : World} {S : St} {Lo Ll : Ents Pl} (h : Book B w b S bf bo bl Lo co Ll cl) : Book B w.drew b S bf bo bl Lo co Ll cl :=
  h.of_mod (Mod.refl (fun _ => False) w).drew (fun _ hx => hx.elim)
theorem Book.drewN {B b bf bo bl co cl : Nat} {w : World} {S : St} {Lo Ll : Ents Pl} (h : Book B w b S bf bo bl Lo co Ll cl) (n : Nat) : Book B (w.drewN n) b S bf bo bl Lo co Ll cl :=
  h.of_mod ((Mod.refl (fun _ => False) w).drewN n) (fun _ hx => hx.elim)

theorem Book.rows {B b bf bo bl co cl : Nat} {w : World} {S : St} {Lo Ll : Ents Pl} (h : Book B w b S bf bo bl Lo co Ll cl) :
    b ≠ bo ∧ b ≠ bl ∧ bf ≠ bo ∧ bf ≠ bl ∧ (∀ p r, (getD p Lo nilS).ownBlock = some r → r ≠ b ∧ r ≠ bo ∧ r ≠ bl) ∧ (∀ p r, (getD p Ll nilS).ownBlock = some r → r ≠ b ∧ r ≠ bo ∧ r ≠ bl) := by
  have e1 := h.blk; have e2 := h.fts; have e3 := h.o.blk; have e4 := h.l.blk
  have row : ∀ r cur, w.heap[r]? = some (.cells cur 3 (0, 0)) → r ≠ b ∧ r ≠ bo ∧ r ≠ bl := fun r cur hr =>
    ⟨fun e => by subst e; rw [hr] at e1; simp at e1, fun e => by subst e; rw [hr] at e3; simp at e3, fun e => by subst e; rw [hr] at e4; simp at e4⟩
  refine ⟨fun e => by subst e; rw [e1] at e3; simp at e3, fun e => by subst e; rw [e1] at e4; simp at e4, (row bf _ e2).2.1, (row bf _ e2).2.2, fun p r hr => ?_, fun p r hr => ?_⟩
  · obtain ⟨cur, hc⟩ := Own1.cells (h.o.own p) hr; exact row r cur hc
  · obtain ⟨cur, hc⟩ := Own1.cells (h.l.own p) hr; exact row r cur hc

theorem Book.settled {B b bf bo bl co cl : Nat} {w w' : World} {S : St} {Lo Ll : Ents Pl} {F : List Int} (h : Book B w b S bf bo bl Lo co Ll cl) (hF : F.length = S.fates.length) (hf : w'.heap[bf]? = some (.cells (F.map zv).toArray 3 (0, 0)))
    (hm : Mod (fun x => x = bf) w w') : Book B w' b { S with fates := F } bf bo bl Lo co Ll cl := by
  obtain ⟨n1, n2, n3, n4, n5, n6⟩ := h.rows
  refine ⟨?_, hf, h.o.kept (hm.block _ (lt_of_block h.o.blk) (fun e => n3 e.symm)) (fun p r hr => hm.block r (Own1.lt (h.o.own p) hr) (h.rowO p r hr).2.1),
    h.l.kept (hm.block _ (lt_of_block h.l.blk) (fun e => n4 e.symm)) (fun p r hr => hm.block r (Own1.lt (h.l.own p) hr) (h.rowL p r hr).2), h.nbf, h.nol, h.rowO, h.rowL, h.lo, ?_, ?_⟩
  · rw [hm.heap h.blk h.nbf]; simp [hF]
  · intro p x hx; rw [hF]; exact h.rO p x hx
  · intro p x hx; rw [hF]; exact h.rL p x hx

theorem Book.limbo {B b bf bo bl co cl : Nat} {w w' : World} {S : St} {Lo Ll : Ents Pl} {p : Pl} {v : Value} {xs : List Nat} (h : Book B w b S bf bo bl Lo co Ll cl) (hB : B ≤ w.heap.size)
    (hb : w'.heap[bl]? = some (.map (ents encP (upd p v Ll cl)) (updClk p Ll cl))) (hv : Own1 w' 3 v (xs.map iv)) (hx : ∀ x ∈ xs, x < S.fates.length)
    (hloc : v.ownBlock = (getD p Ll nilS).ownBlock ∨ ∃ r, v.ownBlock = some r ∧ w.heap.size ≤ r) (hm : Mod (fun x => x = bl ∨ (getD p Ll nilS).ownBlock = some x) w w') :
    Book B w' b { S with li := updF S.li p xs } bf bo bl Lo co (upd p v Ll cl) (updClk p Ll cl) := by
  obtain ⟨n1, n2, n3, n4, n5, n6⟩ := h.rows
  have hg : ∀ q, getD q (upd p v Ll cl) nilS = if q = p then v else getD q Ll nilS := fun q => by
    unfold getD
    rw [get_upd h.l.wf]
    split <;> rfl
  have keep : ∀ x, x < w.heap.size → x ≠ bl → (getD p Ll nilS).ownBlock ≠ some x → w'.heap[x]? = w.heap[x]? := fun x h1 h2 h3 => hm.block x h1 (fun e => e.elim h2 h3)
  refine ⟨?_, ?_, ?_, ?_, h.nbf, h.nol, ?_, ?_, h.lo, h.rO, ?_⟩
  · exact (keep b (lt_of_block h.blk) n2 (fun e => (n6 p b e).1 rfl)).trans h.blk
  · exact (keep bf (lt_of_block h.fts) n4 (fun e => (h.rowL p bf e).2 rfl)).trans h.fts
  · exact h.o.kept (keep bo (lt_of_block h.o.blk) h.nol (fun e => (n6 p bo e).2.1 rfl)) (fun q r hr => keep r (Own1.lt (h.o.own q) hr) (n5 q r hr).2.2 ((h.rowO q r hr).2.2 p))
  · exact h.l.stored hb hv hloc (fun q hq r hr => keep r (Own1.lt (h.l.own q) hr) (n6 q r hr).2.2 (fun e => h.l.apart p q (Ne.symm hq) r e hr))
  · intro q r hr
    refine ⟨(h.rowO q r hr).1, (h.rowO q r hr).2.1, fun q' => ?_⟩
    rw [hg]
    split
    · intro e
      rcases hloc with hl | ⟨r', hl, hle⟩
      · exact (h.rowO q r hr).2.2 p (hl ▸ e)
      · rw [e] at hl; cases hl; have := Own1.lt (h.o.own q) hr; omega
    · exact (h.rowO q r hr).2.2 q'
  · intro q r hr
    rw [hg] at hr
    split at hr
    · rcases hloc with hl | ⟨r', hl, hle⟩
      · exact h.rowL p r (hl ▸ hr)
      · rw [hr] at hl; cases hl; exact ⟨by omega, fun e => by have := lt_of_block h.fts; omega⟩
    · exact h.rowL q r hr
  · intro q x hq
    simp only [updF] at hq
    split at hq
    · exact hx x hq
    · exact h.rL q x hq

theorem Book.struckO {B b bf bo bl co cl : Nat} {w w' : World} {S : St} {Lo Ll : Ents Pl} {p : Pl} (h : Book B w b S bf bo bl Lo co Ll cl)
    (hb : w'.heap[bo]? = some (.map (ents encP (del p Lo)) co)) (hm : Mod (fun x => x = bo) w w') : Book B w' b { S with op := updF S.op p [] } bf bo bl (del p Lo) co Ll cl := by
  obtain ⟨n1, n2, n3, n4, n5, n6⟩ := h.rows
  have hg : ∀ q r, (getD q (del p Lo) nilS).ownBlock = some r → (getD q Lo nilS).ownBlock = some r := fun q r => by
    unfold getD
    rw [get_del h.o.wf]
    split
    · simp [Value.ownBlock]
    · exact id
  refine ⟨hm.heap h.blk n1, hm.heap h.fts n3, h.o.struck hb (fun q r hr => hm.block r (Own1.lt (h.o.own q) hr) (n5 q r hr).2.1),
    h.l.kept (hm.block bl (lt_of_block h.l.blk) (fun e => h.nol e.symm)) (fun q r hr => hm.block r (Own1.lt (h.l.own q) hr) (n6 q r hr).2.1), h.nbf, h.nol, fun q r hr => h.rowO q r (hg q r hr), h.rowL, h.lo, ?_, h.rL⟩
  intro q x hq
  simp only [updF] at hq
  split at hq
  · cases hq
  · exact h.rO q x hq

theorem Book.struckL {B b bf bo bl co cl : Nat} {w w' : World} {S : St} {Lo Ll : Ents Pl} {p : Pl} (h : Book B w b S bf bo bl Lo co Ll cl)
    (hb : w'.heap[bl]? = some (.map (ents encP (del p Ll)) cl)) (hm : Mod (fun x => x = bl) w w') : Book B w' b { S with li := updF S.li p [] } bf bo bl Lo co (del p Ll) cl := by
  obtain ⟨n1, n2, n3, n4, n5, n6⟩ := h.rows
  have hg : ∀ q r, (getD q (del p Ll) nilS).ownBlock = some r → (getD q Ll nilS).ownBlock = some r := fun q r => by
    unfold getD
    rw [get_del h.l.wf]
    split
    · simp [Value.ownBlock]
    · exact id
  refine ⟨hm.heap h.blk n2, hm.heap h.fts n4, h.o.kept (hm.block bo (lt_of_block h.o.blk) h.nol) (fun q r hr => hm.block r (Own1.lt (h.o.own q) hr) (n5 q r hr).2.2),
    h.l.struck hb (fun q r hr => hm.block r (Own1.lt (h.l.own q) hr) (n6 q r hr).2.2), h.nbf, h.nol, fun q r hr => ⟨(h.rowO q r hr).1, (h.rowO q r hr).2.1, fun q' e => (h.rowO q r hr).2.2 q' (hg q' r e)⟩, fun q r hr => h.rowL q r (hg q r hr), h.lo, h.rO, ?_⟩
  intro q x hq
  simp only [updF] at hq
  split at hq
  · cases hq
  · exact h.rL q x hq

theorem still_look {w : World} {ops : Array Oper} {rest : List Oper} {a : Act} {Q : Act → Prop} {m clk : Nat} {L : Ents Pl} (hb : w.heap[m]? = some (.map (ents encP L) clk)) (p : Pl) {dst : Option Tmp} {x i : Operand} {ty : TypeId} {pos : String} {after : Array Edge}
    (hx : a.eval x = .map (some m)) (hi : a.eval i = encP p) (h : wpStill Try.prog ops w Q rest (a.put dst (getD p L nilS))) : wpStill Try.prog ops w Q (⟨dst, .lookup 43 x i false, ty, pos, after, none⟩ :: rest) a :=
  wpStill_exec rfl (exec_lookup keyP Try.underlying43 zeroS hb hx p hi) h

theorem list_mapAppend {w : World} {ops : Array Oper} {rest : List Oper} {a : Act} {Q : Exit → Act → World → Prop} {m clk : Nat} {L : Ents Pl} (hb : w.heap[m]? = some (.map (ents encP L) clk)) (hwf : WF L clk) (p : Pl) {xs ys : List Nat} {u : Value}
    (hown : Own1 w 3 (getD p L nilS) (xs.map iv)) (hu : Own1 w 3 u (ys.map iv)) (hsz : xs.length + ys.length ≤ 1000)
    {d1 d2 d3 d4 nx ny N : Nat} {d5 : Option Tmp} {kk : Operand} {ty1 ty2 ty3 ty4 ty5 : TypeId} {p1 p2 p3 p4 p5 : String} {f1 f2 f3 f4 f5 : Array Edge}
    (hx : a.eval (.tmp nx) = .map (some m)) (hk : a.eval kk = encP p) (hy : a.eval (.tmp ny) = u) (hN : a.tmps.size = N)
    (hd : (d1 < N ∧ d2 < N ∧ d3 < N ∧ d4 < N) ∧ (d1 ≠ d2 ∧ d1 ≠ d3 ∧ d1 ≠ d4 ∧ d2 ≠ d3 ∧ d2 ≠ d4 ∧ d3 ≠ d4) ∧ (d1 ≠ nx ∧ d2 ≠ nx ∧ d3 ≠ nx ∧ d4 ≠ nx) ∧ d1 ≠ ny ∧ d2 ≠ ny ∧ d3 ≠ ny)
    (h : ∀ (st : Nat) v w', w'.heap[m]? = some (.map (ents encP (upd p v L clk)) (updClk p L clk)) → Own1 w' 3 v ((xs ++ ys).map iv) → (v.ownBlock = (getD p L nilS).ownBlock ∨ ∃ r, v.ownBlock = some r ∧ w.heap.size ≤ r) →
      Mod (fun b => b = m ∨ (getD p L nilS).ownBlock = some b) w w' →
      wpList Try.prog ops Q rest (((((a.put (some d1) (.tuple #[getD p L nilS, .int .i64 st])).put (some d2) (getD p L nilS)).put (some d3) (.int .i64 st)).put (some d4) v).put d5 undef) w') :
    wpList Try.prog ops Q (⟨some d1, .mapEntry 43 (.tmp nx) kk, ty1, p1, f1, none⟩ :: ⟨some d2, .extract (.tmp d1) 0, ty2, p2, f2, none⟩ :: ⟨some d3, .extract (.tmp d1) 1, ty3, p3, f3, none⟩ ::
      ⟨some d4, .call { callee := .builtin .append, args := #[.tmp d2, .tmp ny], argTypes := #[23, 23] }, ty4, p4, f4, none⟩ :: ⟨d5, .entryStore 43 (.tmp nx) (.tmp d3) (.tmp d4), ty5, p5, f5, none⟩ :: rest) a w := by
  obtain ⟨i0, hi, hz0, hz1, hz2⟩ := info_parts info3
  refine wpList_mapAppend keyP Try.underlying43 zeroS Try.underlying23 hi hz0 hz1 hz2 rfl hb hwf p hown hu ?_ ?_ ?_ hx hk hy hN hd (fun st v w' h1 h2 h3 h4 => h st v w' h1 (by rw [List.map_append]; exact h2) h3 h4)
  · intro y hy; obtain ⟨n, _, rfl⟩ := List.mem_map.1 hy; rfl
  · simp only [List.length_map]; unfold maxLen; omega
  · simp only [List.length_map]; omega

set_option maxHeartbeats 1000000 in
theorem lose_any (B : Nat) (w : World) (b : Nat) (S : St) (bf bo bl : Nat) (Lo : Ents Pl) (co : Nat) (Ll : Ents Pl) (cl : Nat) (h : Book B w b S bf bo bl Lo co Ll cl) (p : Pl) (hsz : (S.op p).length + (S.li p).length ≤ 1000) (hB : B ≤ w.heap.size) :
    Calls Try.prog 22 #[.pointer (some ⟨b, 0, none⟩), .agg #[.int .i64 p.c, .int .i64 p.i, .int .i64 p.g, .int .i64 p.a]] w fun e w' => e = .returned (.tuple #[]) ∧
      (∃ Ll' cl', Book B w' b (lose p S) bf bo bl (del p Lo) co Ll' cl') ∧ Mod (fun x => x = bf ∨ x = bl ∨ (getD p Ll nilS).ownBlock = some x ∨ x = bo) w w' := by
  obtain ⟨c0, c1, c2⟩ := h.cells
  have hbz := lt_of_block h.blk
  have hbx : (w.alloc (.cells #[.int .i64 p.c, .int .i64 p.i, .int .i64 p.g, .int .i64 p.a] 52)).heap[w.heap.size]? = some (.cells #[.int .i64 p.c, .int .i64 p.i, .int .i64 p.g, .int .i64 p.a] 52 (0, 0)) := heap_alloc_at
  go_enter Try.func22, Try.ntmps22
  go_wp2
  refine wp_region_tail 7 (by kernel_rfl) (by kernel_rfl) ?_
  simp only [List.take_succ_cons, List.take_zero, List.drop_succ_cons, List.drop_zero]
  have hlo : (w.alloc (.cells #[.int .i64 p.c, .int .i64 p.i, .int .i64 p.g, .int .i64 p.a] 52)).drew.heap[bo]? = some (.map (ents encP Lo) co) := heap_alloc_of h.o.blk
  repeat (first
    | ((with_reducible refine still_look hlo p ?_ ?_ ?_); rfl; rfl)
    | still_step)
  refine wpStill_nil ?_
  go_wp2_with fail
  have h1 : Book B (w.alloc (.cells #[.int .i64 p.c, .int .i64 p.i, .int .i64 p.g, .int .i64 p.a] 52)).drew b S bf bo bl Lo co Ll cl := (h.alloc _).drew
  have hbx1 : (w.alloc (.cells #[.int .i64 p.c, .int .i64 p.i, .int .i64 p.g, .int .i64 p.a] 52)).drew.heap[w.heap.size]? = some (.cells #[.int .i64 p.c, .int .i64 p.i, .int .i64 p.g, .int .i64 p.a] 52 (0, 0)) := hbx
  refine (settle_any _ b bf S.fates _ _ h1.blk h1.fts h1.nbf _ _ (h1.o.own p) (fun r hr => (h1.rowO p r hr).2.1) (h1.rO p) 3).mono ?_
  rintro e w1 ⟨rfl, hf1, hm1⟩
  have h2 := h1.settled (setAll_length 3 (S.op p) S.fates) hf1 hm1
  have hbx2 := hm1.heap hbx1 (fun e => by have := lt_of_block h.fts; omega)
  have hz1 : w.heap.size + 1 ≤ w1.heap.size := by simpa using hm1.size
  have hmod1 : Mod (fun x => x = bf) w w1 := (((Mod.refl _ w).alloc _).drew).trans hm1 (fun _ h => h) (fun _ _ h => h)
  clear hm1 hf1 h1 hbx1 hbx hlo c0 c1 c2
  obtain ⟨c0, c1, c2⟩ := h2.cells
  obtain ⟨x0, x1, x2, x3⟩ := box_lies hbx2
  go_wp2
  refine wp_region_order 11 [11, 12, 14, 13, 15] (by kernel_rfl) (by kernel_rfl) (by intro d v c a w h; cases d <;> exact h) ?_
  simp only [List.take_succ_cons, List.take_zero, List.filterMap_cons, List.filterMap_nil, List.getElem?_toArray, List.getElem?_cons_succ, List.getElem?_cons_zero]
  have hlo : w1.drew.heap[bo]? = some (.map (ents encP Lo) co) := h2.o.blk
  repeat (first
    | ((with_reducible refine still_look hlo p ?_ ?_ ?_); rfl; rfl)
    | still_step)
  refine wpStill_nil ?_
  have h3 : Book B w1.drew b { S with fates := setAll S.fates (S.op p) 3 } bf bo bl Lo co Ll cl := h2.drew
  (with_reducible refine list_mapAppend h3.l.blk h3.l.wf p (h3.l.own p) (h3.o.own p) ?_ (N := 32) ?_ ?_ ?_ ?_ (by decide) ?_)
  · dsimp only; omega
  · rfl
  · rfl
  · rfl
  · rfl
  intro st v w2 hb2 hv2 hloc hm2
  have h4 := h3.limbo (by show B ≤ w1.heap.size; omega) hb2 hv2 (fun x hx => (List.mem_append.1 hx).elim (h3.rL p x) (h3.rO p x)) hloc hm2
  have hbx3 := hm2.heap (b := w.heap.size) hbx2 (fun e => by
    rcases e with e | e
    · have := lt_of_block h.l.blk; omega
    · have := Own1.lt (h.l.own p) e; omega)
  have hz2 : w1.heap.size ≤ w2.heap.size := hm2.size
  have hmod2 : Mod (fun x => x = bf ∨ x = bl ∨ (getD p Ll nilS).ownBlock = some x) w w2 := hmod1.drew.trans hm2 (fun _ h => .inl h) (fun _ _ h => .inr h)
  clear hm2 hmod1 hbx2 hlo c0 c1 c2 x0 x1 x2 x3 hb2 hv2 hloc h2 h3
  obtain ⟨c0, c1, c2⟩ := h4.cells
  obtain ⟨x0, x1, x2, x3⟩ := box_lies hbx3
  go_wp2
  refine wp_region_tail 5 (by kernel_rfl) (by kernel_rfl) ?_
  simp only [List.take_succ_cons, List.take_zero, List.drop_succ_cons, List.drop_zero]
  repeat still_step
  refine wpStill_nil ?_
  refine wpList_exec rfl (exec_delete (P := Try.prog) (m := bo) (L := Lo) (clk := co) keyP Try.underlying43 h4.drew.o.blk (x := .tmp 30) (i := .tmp 31) ?_ p ?_) ?_
  · rfl
  · rfl
  have h5 := h4.drew.struckO (p := p) (setObjW_at (w := w2.drew) (lt_of_block h4.o.blk)) (setObjW_mod bo _)
  refine wpList_nil ?_
  go_end0
  refine ⟨rfl, ⟨_, _, h5⟩, ?_⟩
  have hmod3 := hmod2.drew.trans (setObjW_mod bo (.map (ents encP (del p Lo)) co)) (T := fun x => x = bf ∨ x = bl ∨ (getD p Ll nilS).ownBlock = some x ∨ x = bo) (fun _ h => by rcases h with h | h | h <;> simp [h]) (fun _ _ h => by simp [h])
  exact hmod3

/-- What 'lose' writes lies from B on. -/
theorem Book.lose_below {B b bf bo bl co cl : Nat} {w w' : World} {S : St} {Lo Ll : Ents Pl} {p : Pl} (h : Book B w b S bf bo bl Lo co Ll cl) (hB : B ≤ w.heap.size) (hm : Mod (fun x => x = bf ∨ x = bl ∨ (getD p Ll nilS).ownBlock = some x ∨ x = bo) w w') : Below B w w' :=
  hm.below hB (fun x hx e => by
    rcases e with e | e | e | e
    · have := h.lo.2.1; omega
    · have := h.lo.2.2.2; omega
    · have := (h.rowL p x e).1; omega
    · have := h.lo.2.2.1; omega)

/-- A block that is an iterator is none of the book's. -/
theorem Book.not_iter {B b bf bo bl co cl : Nat} {w : World} {S : St} {Lo Ll : Ents Pl} (h : Book B w b S bf bo bl Lo co Ll cl) {it : Nat} {m : Option Nat} {s l : Nat} {seen : Array Nat} (hi : w.heap[it]? = some (.mapIter m s seen l)) :
    it ≠ b ∧ it ≠ bf ∧ it ≠ bo ∧ it ≠ bl ∧ (∀ p, (getD p Lo nilS).ownBlock ≠ some it) ∧ ∀ p, (getD p Ll nilS).ownBlock ≠ some it := by
  refine ⟨fun e => ?_, fun e => ?_, fun e => ?_, fun e => ?_, fun p e => ?_, fun p e => ?_⟩
  · have := h.blk; rw [← e, hi] at this; simp at this
  · have := h.fts; rw [← e, hi] at this; simp at this
  · have := h.o.blk; rw [← e, hi] at this; simp at this
  · have := h.l.blk; rw [← e, hi] at this; simp at this
  · obtain ⟨cur, hc⟩ := Own1.cells (h.o.own p) e; rw [hi] at hc; simp at hc
  · obtain ⟨cur, hc⟩ := Own1.cells (h.l.own p) e; rw [hi] at hc; simp at hc

theorem Book.of_mod_iter {B b bf bo bl co cl : Nat} {w w' : World} {S : St} {Lo Ll : Ents Pl} {it : Nat} {m : Option Nat} {s l : Nat} {seen : Array Nat} (h : Book B w b S bf bo bl Lo co Ll cl) (hi : w.heap[it]? = some (.mapIter m s seen l)) (hm : Mod (fun x => x = it) w w') : Book B w' b S bf bo bl Lo co Ll cl := by
  obtain ⟨n1, n2, n3, n4, n5, n6⟩ := h.not_iter hi
  exact ⟨hm.heap h.blk (fun e => n1 e.symm), hm.heap h.fts (fun e => n2 e.symm),
    h.o.kept (hm.block bo (lt_of_block h.o.blk) (fun e => n3 e.symm)) (fun p r hr => hm.block r (Own1.lt (h.o.own p) hr) (fun e => n5 p (e ▸ hr))),
    h.l.kept (hm.block bl (lt_of_block h.l.blk) (fun e => n4 e.symm)) (fun p r hr => hm.block r (Own1.lt (h.l.own p) hr) (fun e => n6 p (e ▸ hr))),
    h.nbf, h.nol, h.rowO, h.rowL, h.lo, h.rO, h.rL⟩
end Go.Proofs.Ytbdjkbaieokbhaa
