/- The document's lease: Ack walked. Whether two lists of numbers are the same. -/
import Derived.Test.YtnlcnhanhompnaaTc
namespace Go.Proofs.Ytnlcnhanhompnaa
open Go.RowKit Go.Tn

theorem RLeaseAt.mod {B : Nat} {w w' : World} {b t : Nat} {v : Value} {ss : List Nat} {S : Nat → Prop} (h : RLeaseAt B w b t v ss) (hm : Mod S w w') (h1 : ¬ S b) (h2 : ∀ r, v.ownBlock = some r → ¬ S r) : RLeaseAt B w' b t v ss :=
  ⟨hm.heap h.blk h1, h.own.kept fun r hr => by
    rcases h.own.form with ⟨rfl, _⟩ | ⟨g, cap, cur, rfl, _, _, hg, _⟩
    · cases hr
    · cases hr
      exact hm.block g (lt_of_block hg) (h2 g rfl), h.lo, h.lb, h.t1, h.t2, h.le, h.len⟩
theorem RLeaseAt.ty {B : Nat} {w : World} {b t : Nat} {v : Value} {ss : List Nat} (h : RLeaseAt B w b t v ss) {g : Nat} {cs : Array Value} {ty : TypeId} {fr : Nat × Nat} (hg : w.heap[g]? = some (.cells cs ty fr)) (hne : ty ≠ 24) : v.ownBlock ≠ some g := by
  intro hv
  rcases h.own.form with ⟨rfl, _⟩ | ⟨g', cap, cur, rfl, _, _, hg', _⟩
  · cases hv
  · cases hv
    rw [hg] at hg'
    cases hg'
    exact hne rfl
theorem RLeaseAt.tm {B : Nat} {w : World} {b t : Nat} {v : Value} {ss : List Nat} (h : RLeaseAt B w b t v ss) {g : Nat} {es : Array MapEntry} {c : Nat} (hg : w.heap[g]? = some (.map es c)) : v.ownBlock ≠ some g := by
  intro hv
  rcases h.own.form with ⟨rfl, _⟩ | ⟨g', cap, cur, rfl, _, _, hg', _⟩
  · cases hv
  · cases hv
    rw [hg] at hg'
    cases hg'

/-- 'l.Sent = append(s, sent)' up to the store. -/
theorem wpList_appendU {ops : Array Oper} {rest : List Oper} {a : Act} {Q : Exit → Act → World → Prop} {B : Nat} {w : World} {b t : Nat} {v : Value} {ss : List Nat} (h : RLeaseAt B w b t v ss) (x : Nat) (hsz : ss.length ≤ 99) (hx : x ≤ 1099511627775) {d : Nat} {ty : TypeId} {pos : String} {after : Array Edge} {s y : Operand}
    (hs : a.eval s = v) (hy : a.eval y = .slice (some ⟨w.heap.size, 0, none⟩) 1 1)
    (hk : ∀ v' w', w'.cell? ⟨b, 1, none⟩ = some v → w'.frozen? ⟨b, 1, none⟩ = false → (∃ ao n cap, v' = .slice ao n cap) → RLeaseAt B (w'.setCell ⟨b, 1, none⟩ v') b t v' (ss ++ [x]) → Mod (fun r => r = b ∨ v.ownBlock = some r) w (w'.setCell ⟨b, 1, none⟩ v') → wpList Try.prog ops Q rest (a.put (some d) v') w') :
    wpList Try.prog ops Q ({ dst := some d, op := .call { callee := .builtin .append, args := #[s, y], argTypes := #[42, 42] }, type := ty, pos := pos, after := after, guard := none } :: rest) a (w.alloc (.cells #[.int .u64 x] 24)) := by
  obtain ⟨i, hi, hz0, hz1, hz2⟩ := info_parts infoU
  have hO := h.below (w' := w.alloc (.cells #[.int .u64 x] 24)) ((Below.refl _ _).alloc (Nat.le_refl _) _)
  have hu : Own1 (w.alloc (.cells #[.int .u64 x] 24)) 24 (.slice (some ⟨w.heap.size, 0, none⟩) 1 1) [.int .u64 x] := Own1.lit (xs := #[.int .u64 x]) (by unfold maxLen; simp)
  obtain ⟨v', w', hr, ho, hg, hl⟩ := exec_append1 (P := Try.prog) (w := w.alloc (.cells #[.int .u64 x] 24)) (ρ := a.eval) (dst := some d) (ty := ty) (pos := pos) (after := after) (gd := none) Try.underlying42 hi hz0 hz1 hz2 rfl hO.own hu (by simp [Value.oneCell']) (by unfold maxLen; simp; omega) (by simp; omega) hs hy
  have hbv : v.ownBlock ≠ some b := fun e => (h.lo b e).2 rfl
  have hblt := lt_of_block h.blk
  have hb' : w'.heap[b]? = some (.cells #[.int .i64 t, v] 44 (0, 0)) := (hg.block b (by simp; omega) (fun e => hbv e.symm)).trans (heap_alloc_of h.blk)
  have hv'b : v'.ownBlock ≠ some b := by
    rcases hl with hl | hl
    · rw [hl]; exact hbv
    · rw [hl]; simp; omega
  have hone : ∃ ao n cap, v' = .slice ao n cap := by
    rcases ho.form with ⟨rfl, _⟩ | ⟨g, cap, cur, rfl, _⟩ <;> exact ⟨_, _, _, rfl⟩
  refine wpList_exec rfl hr (hk v' w' (cell_of hb' rfl) (free_of hb') hone ?_ ?_)
  · refine ⟨(heap_setCell_at hb').trans rfl, ?_, fun r hr => ?_, h.lb, h.t1, h.t2, fun s hs => ?_, by simp; omega⟩
    · rw [List.map_append]
      exact ho.kept fun r hr => heap_setCell_ne (fun e => hv'b (by rw [hr]; exact congrArg some e))
    · rcases hl with hl | hl
      · exact h.lo r (hl ▸ hr)
      · rw [hl] at hr
        cases hr
        have := h.lb
        have e : (w.alloc (.cells #[.int .u64 (x : Int)] 24)).heap.size = w.heap.size + 1 := by simp
        exact ⟨by omega, by omega⟩
    · rcases List.mem_append.1 hs with hs | hs
      · exact h.le s hs
      · simp at hs; omega
  · exact (((Mod.refl _ w).alloc _).grown hg (fun k hk _ => .inr hk)).setCell _ _ (fun _ => .inl rfl)

set_option maxHeartbeats 1000000 in
theorem rAck_ok (B : Nat) (w : World) (b t : Nat) (v : Value) (ss : List Nat) (h : RLeaseAt B w b t v ss) (hsz : ss.length ≤ 99) (s : Nat) (hs : s ≤ 1099511627775) : Calls Try.prog 15 #[.pointer (some ⟨b, 0, none⟩), .int .u64 s] w
    fun e w' => e = .returned (.int .i64 0) ∧ (∃ v', RLeaseAt B w' b t v' (ss ++ [s])) ∧ Mod (fun r => r = b ∨ v.ownBlock = some r) w w' := by
  have c1 : w.cell? ⟨b, 1, none⟩ = some v := cell_of h.blk rfl
  have hs' : (s : Int) ≤ 1099511627775 := by omega
  go_enter Try.func15, Try.ntmps15
  go_wp2_with (first
    | ((with_reducible refine wpList_appendU h s hsz hs ?_ ?_ ?_); rfl; rfl; (rintro v' w3 d1 d2 ⟨ao, n, cap, rfl⟩ hR hm); go_frame)
    | fail)
  go_ret
  exact ⟨rfl, ⟨_, hR⟩, hm⟩
theorem rAck_no (w : World) (v : Value) (s : Nat) (hs : 1099511627775 < s) : Calls Try.prog 15 #[v, .int .u64 s] w
    fun e w' => e = .returned (.int .i64 2) ∧ w' = w := by
  have hs' : (1099511627775 : Int) < (s : Int) := by omega
  go_enter Try.func15, Try.ntmps15
  go_wp2
  go_ret
  exact ⟨rfl, rfl⟩

theorem IntSl.drewN {w : World} {v : Value} {xs : List Int} (h : IntSl w v xs) (n : Nat) : IntSl (w.drewN n) v xs := h
set_option maxHeartbeats 1000000 in
theorem sameInts_yes (w : World) (u v : Value) (xs : List Int) (hu : IntSl w u xs) (hv : IntSl w v xs) :
    Calls Try.prog 19 #[u, v] w fun e w' => e = .returned (.bool true) ∧ ∃ n, w' = w.drewN n := by
  obtain ⟨ao, cap, rfl, hmx, hcx, hx⟩ := hu
  obtain ⟨ao', cap', rfl, hmy, hcy, hy⟩ := hv
  unfold maxLen at hcx hcy
  go_enter Try.func19, Try.ntmps19
  go_wp2
  go_loopw [5] (fun c wr => ∃ k : Nat, k ≤ xs.length ∧ c = .int .i64 k ∧ ∃ n, wr = w.drewN n) (fun c _ => xs.length - (intOf c).toNat)
  case atStart => exact ⟨0, Nat.zero_le _, rfl, 0, rfl⟩
  case round =>
    obtain ⟨k, hk, rfl, nd, rfl⟩ := hrel
    by_cases hlt : k < xs.length
    · obtain ⟨b, off, rfl, _, hcx⟩ := hx (by omega)
      obtain ⟨b', off', rfl, _, hcy⟩ := hy (by omega)
      have c1 := hcx k xs[k] (List.getElem?_eq_getElem hlt)
      have c2 := hcy k xs[k] (List.getElem?_eq_getElem hlt)
      have k1 : (k : Int) < (xs.length : Int) := by omega
      clear hcx hcy hx hy
      generalize xs[k] = x at *
      go_wp2
      go_quiet (fail)
      go_wp2
      go_roundw
      case rel => exact ⟨k + 1, by omega, by go_num, nd + nq, by first | rfl | rw [World.drewN_drewN]⟩
      case measure => simp [intOf]; omega
    · go_wp2
      go_ret
      exact ⟨rfl, nd, rfl⟩
end Go.Proofs.Ytnlcnhanhompnaa
