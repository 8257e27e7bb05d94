/- does walked, any call; what the law notes. -/
import Derived.Test.YthckjciblngaaaaVd
namespace Go.Proofs.Ythckjciblngaaaa
open Go.RowKit Go.Tn Go.Maps Go.Sort Go.Shelf

theorem Tm.wide {A A' : Fi → Prop} {B B' : Prop} {ph bo : Int} {G : Gs} {ph' bo' : Int} {G' : Gs} (h : Tm A B ph bo G ph' bo' G') (hA : ∀ f, A f → A' f) (hB : B → B') : Tm A' B' ph bo G ph' bo' G' :=
  ⟨fun e => by
    rcases h.back e with ⟨h1, h2, h3⟩ | ⟨h1, h2, h3⟩
    · exact .inl ⟨h1, h2, fun f o' k1 k2 => by
        rcases h3 f o' k1 k2 with k | k
        · exact .inl k
        · exact .inr (hA f k)⟩
    · exact .inr ⟨hB h1, h2, h3⟩, h.into⟩
theorem DDone.wide {w w' : World} {b xb n n' : Nat} {S T : Nat → Prop} {ph bo : Int} {G : Gs} {A A' : Fi → Prop} {B B' : Prop} (h : DDone A B w b xb n S T ph bo G w') (hn : n ≤ n') (hA : ∀ f, A f → A' f) (hB : B → B') : DDone A' B' w b xb n' S T ph bo G w' := by
  obtain ⟨ph', bo', G', S', T', h1, h2, h3, h4⟩ := h
  exact ⟨ph', bo', G', S', T', h1.mono hn, h2.wide hA hB, h3, h4⟩
section
variable {w : World} {b xb n : Nat} {S T : Nat → Prop} {ph bo : Int} {G : Gs}
theorem does_any (h : Both w b xb n S T ph bo G) (hn : n ≤ 400) (kd md i g v : Int) (hv : 0 ≤ v) {FL : List Fi} (hFL : Fils G FL) : Calls Try.prog 9 #[.pointer (some ⟨b, 0, none⟩), .pointer (some ⟨xb, 0, none⟩), .agg #[.int .i64 kd, .int .i64 md, .int .i64 i, .int .i64 g, .int .u64 v]] w
    fun e w' => SomeBool e ∧ DDone (fun f => (kd = 3 ∧ f = (i, g)) ∨ (kd = 11 ∧ nextR ph G FL = some f)) (kd = 2) w b xb (n + 2) S T ph bo G w' := by
  by_cases hk : 0 ≤ kd ∧ kd ≤ 11
  · have : kd = 0 ∨ kd = 1 ∨ kd = 2 ∨ kd = 3 ∨ kd = 4 ∨ kd = 5 ∨ kd = 6 ∨ kd = 7 ∨ kd = 8 ∨ kd = 9 ∨ kd = 10 ∨ kd = 11 := by omega
    rcases this with rfl | rfl | rfl | rfl | rfl | rfl | rfl | rfl | rfl | rfl | rfl | rfl
    · exact (does_0 h hn md i g v).mono fun e w' k => ⟨k.1, k.2.wide (Nat.le_refl _) (fun _ h => h.elim) (fun h => h.elim)⟩
    · exact (does_1 h hn md i g v).mono fun e w' k => ⟨k.1, k.2.wide (Nat.le_refl _) (fun _ h => h.elim) (fun h => h.elim)⟩
    · exact (does_2 h hn md i g v).mono fun e w' k => ⟨k.1, k.2.wide (Nat.le_refl _) (fun _ h => h.elim) (fun h => rfl)⟩
    · exact (does_3 h hn md i g v).mono fun e w' k => ⟨k.1, k.2.wide (Nat.le_refl _) (fun _ h => .inl ⟨rfl, h⟩) (fun h => h.elim)⟩
    · exact (does_4 h hn md i g v).mono fun e w' k => ⟨k.1, k.2.wide (Nat.le_refl _) (fun _ h => h.elim) (fun h => h.elim)⟩
    · exact (does_5 h hn md i g v).mono fun e w' k => ⟨k.1, k.2.wide (Nat.le_refl _) (fun _ h => h.elim) (fun h => h.elim)⟩
    · exact (does_6 h hn md i g v).mono fun e w' k => ⟨k.1, k.2.wide (Nat.le_refl _) (fun _ h => h.elim) (fun h => h.elim)⟩
    · exact (does_7 h hn md i g v).mono fun e w' k => ⟨k.1, k.2.wide (Nat.le_refl _) (fun _ h => h.elim) (fun h => h.elim)⟩
    · exact (does_8 h hn md i g v).mono fun e w' k => ⟨k.1, k.2.wide (Nat.le_refl _) (fun _ h => h.elim) (fun h => h.elim)⟩
    · exact (does_9 h hn md i g v).mono fun e w' k => ⟨k.1, k.2.wide (Nat.le_refl _) (fun _ h => h.elim) (fun h => h.elim)⟩
    · exact (does_10 h hn md i g v hv).mono fun e w' k => ⟨k.1, k.2.wide (Nat.le_refl _) (fun _ h => h.elim) (fun h => h.elim)⟩
    · exact (does_11 h hn md i g v hFL).mono fun e w' k => ⟨k.1, k.2.wide (Nat.le_refl _) (fun _ h => .inr ⟨rfl, h⟩) (fun h => h.elim)⟩
  · exact (does_other h kd md i g v hk).mono fun e w' k => ⟨k.1, k.2.wide (by omega) (fun _ h => h.elim) (fun h => h.elim)⟩
theorem p_mode_out (h : HS w b S ph bo G n) (hp : ph ≠ 2) (i g : Int) : Calls Try.prog 11 #[.pointer (some ⟨b, 0, none⟩), .agg #[.int .i64 i, .int .i64 g]] w fun e w' => e = .returned (.int .i64 0) ∧ Below w.heap.size w w' := by
  obtain ⟨m, lb, se, L, clk, wv, W, t, u, h1, rfl, h3, h4⟩ := h
  exact mode_out h1 hp i g
theorem p_phase (h : HS w b S ph bo G n) : Calls Try.prog 6 #[.pointer (some ⟨b, 0, none⟩)] w fun e w' => e = .returned (.int .i64 ph) ∧ w' = w := by
  obtain ⟨m, lb, se, L, clk, wv, W, t, u, h1, rfl, h3, h4⟩ := h
  exact phase_any h1
theorem p_boot (h : HS w b S ph bo G n) : Calls Try.prog 7 #[.pointer (some ⟨b, 0, none⟩)] w fun e w' => e = .returned (.int .u64 bo) ∧ w' = w := by
  obtain ⟨m, lb, se, L, clk, wv, W, t, u, h1, rfl, h3, h4⟩ := h
  exact boot_any h1
theorem p_all (h : HS w b S ph bo G n) (hn : n ≤ 500) : Calls Try.prog 10 #[.pointer (some ⟨b, 0, none⟩)] w fun e w' => (∃ v FL, e = .returned v ∧ Fils G FL ∧ FL.length ≤ n ∧ LRd enF 2 w.heap.size w' v FL) ∧ Below w.heap.size w w' := by
  obtain ⟨m, lb, se, L, clk, wv, W, t, u, h1, rfl, h3, h4⟩ := h
  refine (all_any h1 (by omega)).mono ?_
  rintro e w' ⟨v, FL, rfl, ⟨k1, k2, k3⟩, hR, hb⟩
  exact ⟨⟨v, FL, rfl, ⟨k1, k2⟩, by omega, hR⟩, hb⟩
end

/-! ### The map of what was claimed -/
theorem zeroB : ∀ w, (zeroValue 4).run Try.prog w = .ok (.bool false) w := fun w => by kernel_rfl
/-- Which files the law has noted. -/
def CMap (w : World) (m : Nat) (C : Fi → Bool) : Prop := ∃ L clk, w.heap[m]? = some (.map (ents encF L) clk) ∧ WF L clk ∧ ∀ f, getD f L (.bool false) = .bool (C f)
def setC (C : Fi → Bool) (f : Fi) : Fi → Bool := fun x => if x = f then true else C x
theorem CMap.lt {w : World} {m : Nat} {C : Fi → Bool} (h : CMap w m C) : m < w.heap.size := by
  obtain ⟨L, clk, h1, _⟩ := h
  exact lt_of_block h1
theorem CMap.mod {w w' : World} {m : Nat} {C : Fi → Bool} {S : Nat → Prop} (h : CMap w m C) (hm : Mod S w w') (hS : ¬ S m) : CMap w' m C := by
  obtain ⟨L, clk, h1, h2⟩ := h
  exact ⟨L, clk, hm.heap h1 hS, h2⟩
theorem CMap.new {w : World} : CMap (w.alloc (.map #[] 0)) w.heap.size (fun _ => false) := ⟨[], 0, heap_alloc_at, WF.nil _, fun _ => rfl⟩
section
variable {ρ : Operand → Value} {dst : Option Tmp} {ty : TypeId} {pos : String} {after : Array Edge} {gd : Option (Nat × Bool)}
theorem CMap.exec_set {w : World} {m : Nat} {C : Fi → Bool} (h : CMap w m C) (i g : Int) : ∃ w', CMap w' m (setC C (i, g)) ∧ Mod (fun x => x = m) w w' ∧ ∀ (ρ : Operand → Value) (dst : Option Tmp) (ty : TypeId) (pos : String) (after : Array Edge) (gd : Option (Nat × Bool)) (x k y : Operand) (_ : ρ x = .map (some m)) (_ : ρ k = .agg #[.int .i64 i, .int .i64 g]) (_ : ρ y = .bool true), (execOp ρ ⟨dst, .mapUpdate 37 x k y, ty, pos, after, gd⟩).run Try.prog w = .ok .skip w' := by
  obtain ⟨L, clk, h1, h2, h3⟩ := h
  refine ⟨setObjW w m (.map (ents encF (upd (i, g) (.bool true) L clk)) (updClk (i, g) L clk)), ⟨_, _, setObjW_at (lt_of_block h1), h2.upd, fun f => ?_⟩, setObjW_mod _ _, fun ρ dst ty pos after gd x k y hx hk hy => ?_⟩
  · have := h3 f
    unfold getD at this ⊢
    rw [get_upd h2]
    unfold setC
    by_cases e : f = (i, g)
    · rw [if_pos e, if_pos e]; rfl
    · rw [if_neg e, if_neg e]; exact this
  · have := exec_mapUpdate (dst := dst) (ty := ty) (pos := pos) (after := after) (g := gd) keyF Try.underlying37 h1 hx (i, g) hk (y := y)
    rw [hy] at this
    exact this
theorem CMap.exec_get {w : World} {m : Nat} {C : Fi → Bool} (h : CMap w m C) {x k : Operand} (hx : ρ x = .map (some m)) (i g : Int) (hk : ρ k = .agg #[.int .i64 i, .int .i64 g]) : (execOp ρ ⟨dst, .lookup 37 x k false, ty, pos, after, gd⟩).run Try.prog w = .ok (.value (.bool (C (i, g)))) w := by
  obtain ⟨L, clk, h1, h2, h3⟩ := h
  rw [← h3 (i, g)]
  exact exec_lookup keyF Try.underlying37 zeroB h1 hx (i, g) hk
end
end Go.Proofs.Ythckjciblngaaaa
