import Derived.Test.YtbdjkbaieokbhaaWe
namespace Go.Proofs.Ytbdjkbaieokbhaa
open Go.RowKit Go.Tn Go.Tn.Ghost

theorem still_look' {w : World} {ops : Array Oper} {rest : List Oper} {a : Act} {Q : Act → Prop} {m clk : Nat} {L : Ents Pl} (hb : w.heap[m]? = some (.map (ents encP L) clk)) (p : Pl) {v : Value} (hv : getD p L nilS = v) {dst : Option Tmp} {x i : Operand} {ty : TypeId} {pos : String} {after : Array Edge}
    (hx : a.eval x = .map (some m)) (hi : a.eval i = encP p) (h : wpStill Try.prog ops w Q rest (a.put dst v)) : wpStill Try.prog ops w Q (⟨dst, .lookup 43 x i false, ty, pos, after, none⟩ :: rest) a :=
  wpStill_exec rfl (exec_lookup keyP Try.underlying43 zeroS hb hx p hi) (hv ▸ h)
theorem list_look {w : World} {ops : Array Oper} {rest : List Oper} {a : Act} {Q : Exit → Act → World → Prop} {m clk : Nat} {L : Ents Pl} (hb : w.heap[m]? = some (.map (ents encP L) clk)) (p : Pl) {v : Value} (hv : getD p L nilS = v) {dst : Option Tmp} {x i : Operand} {ty : TypeId} {pos : String} {after : Array Edge}
    (hx : a.eval x = .map (some m)) (hi : a.eval i = encP p) (h : wpList Try.prog ops Q rest (a.put dst v) w) : wpList Try.prog ops Q (⟨dst, .lookup 43 x i false, ty, pos, after, none⟩ :: rest) a w :=
  wpList_exec rfl (exec_lookup keyP Try.underlying43 zeroS hb hx p hi) (hv ▸ h)
theorem list_delete {w : World} {ops : Array Oper} {rest : List Oper} {a : Act} {Q : Exit → Act → World → Prop} {m clk : Nat} {L : Ents Pl} (hb : w.heap[m]? = some (.map (ents encP L) clk)) (p : Pl) {dst : Option Tmp} {x i : Operand} {ty : TypeId} {pos : String} {after : Array Edge}
    (hx : a.eval x = .map (some m)) (hi : a.eval i = encP p) (h : wpList Try.prog ops Q rest (a.put dst (.tuple #[])) (setObjW w m (.map (ents encP (del p L)) clk))) :
    wpList Try.prog ops Q (⟨dst, .call { callee := .builtin .delete, args := #[x, i], argTypes := #[43, 52] }, ty, pos, after, none⟩ :: rest) a w :=
  wpList_exec rfl (exec_delete keyP Try.underlying43 hb hx p hi) h

set_option maxHeartbeats 1000000 in
theorem back_any (B : Nat) (w : World) (b : Nat) (S : St) (bf bo bl : Nat) (Lo : Ents Pl) (co : Nat) (Ll : Ents Pl) (cl : Nat) (h : Book B w b S bf bo bl Lo co Ll cl) (p : Pl) (hB : B ≤ w.heap.size) :
    Calls Try.prog 21 #[.pointer (some ⟨b, 0, none⟩), .agg #[.int .i64 p.c, .int .i64 p.i, .int .i64 p.g, .int .i64 p.a]] w fun e w' => e = .returned (.tuple #[]) ∧
      (∃ Lo' co' Ll' cl', Book B w' b (back p S) bf bo bl Lo' co' Ll' cl') ∧ Below B w w' := by
  obtain ⟨c0, c1, c2⟩ := h.cells
  have hbz := lt_of_block h.blk
  have hbx : (w.alloc (.cells #[.int .i64 p.c, .int .i64 p.i, .int .i64 p.g, .int .i64 p.a] 52)).heap[w.heap.size]? = some (.cells #[.int .i64 p.c, .int .i64 p.i, .int .i64 p.g, .int .i64 p.a] 52 (0, 0)) := heap_alloc_at
  have hlo : (w.alloc (.cells #[.int .i64 p.c, .int .i64 p.i, .int .i64 p.g, .int .i64 p.a] 52)).drew.heap[bo]? = some (.map (ents encP Lo) co) := heap_alloc_of h.o.blk
  have h1 : Book B (w.alloc (.cells #[.int .i64 p.c, .int .i64 p.i, .int .i64 p.g, .int .i64 p.a] 52)).drew b S bf bo bl Lo co Ll cl := (h.alloc _).drew
  have hbx1 : (w.alloc (.cells #[.int .i64 p.c, .int .i64 p.i, .int .i64 p.g, .int .i64 p.a] 52)).drew.heap[w.heap.size]? = some (.cells #[.int .i64 p.c, .int .i64 p.i, .int .i64 p.g, .int .i64 p.a] 52 (0, 0)) := hbx
  have hmod0 : Mod (fun x => x = bf) w (w.alloc (.cells #[.int .i64 p.c, .int .i64 p.i, .int .i64 p.g, .int .i64 p.a] 52)).drew := ((Mod.refl _ w).alloc _).drew
  have hbfz := lt_of_block h.fts
  by_cases hp : S.op p = []
  · have hS := Lib.hid (show back p S = { fates := setAll S.fates (S.li p) 2, op := S.op, li := updF S.li p [] } by simp [back, hp])
    have HV : ∃ (ao : Option Addr) (cap : Nat), getD p Lo nilS = .slice ao 0 cap := by
      rcases (h.o.own p).form with ⟨hv, _⟩ | ⟨g, cap, cur, hv, _⟩
      · exact ⟨none, 0, hv⟩
      · rw [hp] at hv; exact ⟨_, cap, hv⟩
    obtain ⟨ao, cap, hv⟩ := HV
    have HV := Lib.hid hv
    clear hv hp
    have hll := h1.l.blk
    go_enter Try.func21, Try.ntmps21
    go_wp2
    refine wp_region_tail 7 (by kernel_rfl) (by kernel_rfl) ?_
    simp only [List.take_succ_cons, List.take_zero, List.drop_succ_cons, List.drop_zero]
    repeat (first
      | ((with_reducible refine still_look' hlo p HV.out ?_ ?_ ?_); rfl; rfl)
      | still_step)
    refine wpStill_nil ?_
    go_wp2_with (first
      | ((with_reducible refine list_look hll p rfl ?_ ?_ ?_); rfl; rfl)
      | fail)
    refine (settle_any _ b bf S.fates _ _ h1.blk h1.fts h1.nbf _ _ (h1.l.own p) (fun r hr => (h1.rowL p r hr).2) (h1.rL p) 2).mono ?_
    rintro e w1 ⟨rfl, hf1, hm1⟩
    have h2 := h1.settled (setAll_length 2 (S.li p) S.fates) hf1 hm1
    have hbx2 := hm1.heap hbx1 (fun e => by omega)
    obtain ⟨x0, x1, x2, x3⟩ := box_lies hbx2
    have hmod1 : Mod (fun x => x = bf) w w1 := hmod0.trans hm1 (fun _ h => h) (fun _ _ h => h)
    have hll2 := h2.l.blk
    have h3 := h2.struckL (p := p) (setObjW_at (lt_of_block hll2)) (setObjW_mod bl _)
    clear hm1 hf1 h1 hbx1 hbx hlo c0 c1 c2 hll hmod0 hbx2
    go_wp2_with (first
      | ((with_reducible refine list_delete hll2 p ?_ ?_ ?_); rfl; rfl)
      | fail)
    go_end0
    refine ⟨rfl, ⟨_, _, _, _, by rw [hS.out]; exact h3⟩, ?_⟩
    exact (hmod1.trans (setObjW_mod bl _) (T := fun x => x = bf ∨ x = bl) (fun _ h => .inl h) (fun _ _ h => .inr h)).below hB (fun x hx e => by
      rcases e with e | e
      · have := h.lo.2.1; omega
      · have := h.lo.2.2.2; omega)
  · have hS := Lib.hid (show back p S = { fates := setAll S.fates (S.op p) 2, op := updF S.op p [], li := S.li } by simp [back, hp])
    have HV : ∃ (ao : Option Addr) (cap : Nat), getD p Lo nilS = .slice ao (S.op p).length cap := by
      rcases (h.o.own p).form with ⟨hv, hx⟩ | ⟨g, cap, cur, hv, _⟩
      · simp at hx; exact absurd hx hp
      · rw [List.length_map] at hv; exact ⟨_, cap, hv⟩
    obtain ⟨ao, cap, hv⟩ := HV
    have hlen : (((S.op p).length : Int) == 0) = false := by
      have : (S.op p).length ≠ 0 := fun e => hp (List.eq_nil_of_length_eq_zero e)
      simp; omega
    have HV := Lib.hid hv
    clear hv hp
    go_enter Try.func21, Try.ntmps21
    go_wp2
    refine wp_region_tail 7 (by kernel_rfl) (by kernel_rfl) ?_
    simp only [List.take_succ_cons, List.take_zero, List.drop_succ_cons, List.drop_zero]
    repeat (first
      | ((with_reducible refine still_look' hlo p HV.out ?_ ?_ ?_); rfl; rfl)
      | still_step)
    refine wpStill_nil ?_
    go_wp2_with (first
      | ((with_reducible refine list_look hlo p rfl ?_ ?_ ?_); rfl; rfl)
      | fail)
    refine (settle_any _ b bf S.fates _ _ h1.blk h1.fts h1.nbf _ _ (h1.o.own p) (fun r hr => (h1.rowO p r hr).2.1) (h1.rO p) 2).mono ?_
    rintro e w1 ⟨rfl, hf1, hm1⟩
    have h2 := h1.settled (setAll_length 2 (S.op p) S.fates) hf1 hm1
    have hbx2 := hm1.heap hbx1 (fun e => by omega)
    obtain ⟨x0, x1, x2, x3⟩ := box_lies hbx2
    have hmod1 : Mod (fun x => x = bf) w w1 := hmod0.trans hm1 (fun _ h => h) (fun _ _ h => h)
    have hlo2 := h2.o.blk
    have h3 := h2.struckO (p := p) (setObjW_at (lt_of_block hlo2)) (setObjW_mod bo _)
    clear hm1 hf1 h1 hbx1 hbx hlo c0 c1 c2 hmod0 hbx2
    go_wp2_with (first
      | ((with_reducible refine list_delete hlo2 p ?_ ?_ ?_); rfl; rfl)
      | fail)
    go_end0
    refine ⟨rfl, ⟨_, _, _, _, by rw [hS.out]; exact h3⟩, ?_⟩
    exact (hmod1.trans (setObjW_mod bo _) (T := fun x => x = bf ∨ x = bo) (fun _ h => .inl h) (fun _ _ h => .inr h)).below hB (fun x hx e => by
      rcases e with e | e
      · have := h.lo.2.1; omega
      · have := h.lo.2.2.1; omega)
end Go.Proofs.Ytbdjkbaieokbhaa
