/- RedoKept: what it keeps, whole. Plain. -/
import Derived.Test.YtbkblhoagfonjaaGreatMgK23
import Derived.Test.YtbkblhoagfonjaaGreatMgK29
import Derived.Test.YtbkblhoagfonjaaGreatMgK28
import Derived.Test.YtbkblhoagfonjaaGreatMgK27
import Derived.Test.YtbkblhoagfonjaaGreatMgK26
/- Lists of lists of sectors, of one's own: the states of RedoKept. -/
namespace Go.Proofs.YtbkblhoagfonjaaGreat
open Go.RowKit Go.Tn Go.Tn.Bt Go.Tn.Lp Go.Tn.Dk
def StA (w : World) (S : Nat → Prop) (v : Value) (hss : List (List (List Nat))) : Prop := ∃ ys : List (List (List Nat) × Sv), ys.map (·.1) = hss ∧ Off 50 w v (ys.map fun y => sv y.2) ∧ (∀ r, v.ownBlock = some r → ¬ S r) ∧
  ∀ y ∈ ys, BlA w (fun b => S b ∨ v.ownBlock = some b) (sv y.2) y.1
theorem StA.shape {w : World} {S : Nat → Prop} {v : Value} {hss : List (List (List Nat))} (h : StA w S v hss) : ∃ b off cap, v = .slice (some ⟨b, off, none⟩) hss.length cap ∧ hss.length ≤ cap ∧ b < w.heap.size := by
  obtain ⟨ys, h1, h2, -⟩ := h
  have hl := fun r => h2.lt (r := r)
  obtain ⟨b, off, cap, cur, rfl, h3, -⟩ := h2
  rw [List.length_map] at h3
  exact ⟨b, off, cap, by rw [← h1, List.length_map, List.length_map], by rw [← h1, List.length_map]; exact h3, hl b rfl⟩
theorem StA.lt {w : World} {S : Nat → Prop} {v : Value} {hss : List (List (List Nat))} (h : StA w S v hss) {r : Nat} (hr : v.ownBlock = some r) : r < w.heap.size := by
  obtain ⟨ys, -, h2, -⟩ := h
  exact h2.lt hr
theorem StA.mod {w w' : World} {S S' : Nat → Prop} {v : Value} {hss : List (List (List Nat))} (h : StA w S v hss) (hm : Mod S w w') (hS : ∀ b, S' b → S b ∨ w.heap.size ≤ b) : StA w' S' v hss := by
  obtain ⟨ys, h1, h2, h3, h4⟩ := h
  have hlt := fun r => h2.lt (r := r)
  refine ⟨ys, h1, h2.mod hm h3, fun r hr e => ?_, fun y hy => (h4 y hy).mod (hm.mono fun x _ hx => .inl hx) fun b hb => ?_⟩
  · rcases hS r e with h | h
    · exact h3 r hr h
    · have := hlt r hr; omega
  · rcases hb with hb | hb
    · exact (hS b hb).imp .inl id
    · exact .inl (.inr hb)
theorem StA.below {w w' : World} {S S' : Nat → Prop} {v : Value} {hss : List (List (List Nat))} (h : StA w S v hss) (hb : Below w.heap.size w w') (hS : ∀ b, S' b → S b ∨ w.heap.size ≤ b) : StA w' S' v hss := by
  obtain ⟨ys, h1, h2, h3, h4⟩ := h
  have hlt := fun r => h2.lt (r := r)
  refine ⟨ys, h1, h2.below hb, fun r hr e => ?_, fun y hy => (h4 y hy).below hb fun b hb => ?_⟩
  · rcases hS r e with h | h
    · exact h3 r hr h
    · have := hlt r hr; omega
  · rcases hb with hb | hb
    · exact (hS b hb).imp .inl id
    · exact .inl (.inr hb)
/-- One state, in a block of its own. -/
theorem StA.one {w w' : World} {S : Nat → Prop} {a : Option Addr} {n c : Nat} {hs : List (List Nat)} (h : BlA w S (.slice a n c) hs) (hw : w' = w.alloc (.cells #[.slice a n c] 50)) (hS : ∀ b, S b → b < w.heap.size) : StA w' S (.slice (some ⟨w.heap.size, 0, none⟩) 1 1) [hs] := by
  subst hw
  refine ⟨[(hs, (a, n, c))], rfl, Off.one heap_alloc_at, fun r hr e => ?_, fun y hy => ?_⟩
  · cases hr
    exact absurd (hS _ e) (Nat.lt_irrefl _)
  · rw [List.mem_singleton.1 hy]
    refine h.below ((Below.refl _ _).alloc (Nat.le_refl _) _) fun b hb => hb.imp id fun hb => ?_
    cases hb
    exact Nat.le_refl _
theorem StA.get {w : World} {S : Nat → Prop} {b off n cap : Nat} {hss : List (List (List Nat))} (h : StA w S (.slice (some ⟨b, off, none⟩) n cap) hss) {j : Nat} {hs : List (List Nat)} (hj : hss[j]? = some hs) : ∃ x, w.cell? ⟨b, off + j, none⟩ = some (sv x) ∧ BlA w S (sv x) hs := by
  obtain ⟨ys, h1, h2, h3, h4⟩ := h
  rw [← h1, List.getElem?_map] at hj
  obtain ⟨y, hy, rfl⟩ := Option.map_eq_some_iff.1 hj
  refine ⟨y.2, h2.cell (by rw [List.getElem?_map, hy]; rfl), ?_⟩
  obtain ⟨xs, e1, e2, e3, e4⟩ := h4 y (List.mem_of_getElem? hy)
  exact ⟨xs, e1, e2, fun r hr => ⟨fun e => (e3 r hr).1 (.inl e), (e3 r hr).2⟩, fun x hx => ⟨(e4 x hx).1, fun r hr => ⟨fun e => ((e4 x hx).2 r hr).1 (.inl e), ((e4 x hx).2 r hr).2⟩⟩⟩
theorem StA.get' {w : World} {S : Nat → Prop} {b off n cap : Nat} {hss : List (List (List Nat))} (h : StA w S (.slice (some ⟨b, off, none⟩) n cap) hss) {j : Nat} {hs : List (List Nat)} (hj : hss[j]? = some hs) : ∃ x, w.cell? ⟨b, off + j, none⟩ = some (sv x) ∧ BlA w (fun r => S r ∨ (Value.slice (some ⟨b, off, none⟩) n cap).ownBlock = some r) (sv x) hs := by
  obtain ⟨ys, h1, h2, h3, h4⟩ := h
  rw [← h1, List.getElem?_map] at hj
  obtain ⟨y, hy, rfl⟩ := Option.map_eq_some_iff.1 hj
  exact ⟨y.2, h2.cell (by rw [List.getElem?_map, hy]; rfl), h4 y (List.mem_of_getElem? hy)⟩
theorem BlA.sub {w : World} {S S' : Nat → Prop} {v : Value} {hs : List (List Nat)} (h : BlA w S v hs) (hS : ∀ b, S' b → S b) : BlA w S' v hs := by
  obtain ⟨xs, e1, e2, e3, e4⟩ := h
  exact ⟨xs, e1, e2, fun r hr => ⟨fun e => (e3 r hr).1 (hS _ e), (e3 r hr).2⟩, fun x hx => ⟨(e4 x hx).1, fun r hr => ⟨fun e => ((e4 x hx).2 r hr).1 (hS _ e), ((e4 x hx).2 r hr).2⟩⟩⟩
theorem PtB.sub {w : World} {S S' : Nat → Prop} {v : Value} {ps : List Pt} (h : PtB w S v ps) (hS : ∀ b, S' b → S b) : PtB w S' v ps := by
  obtain ⟨xs, e1, e2, e3, e4⟩ := h
  exact ⟨xs, e1, e2, fun r hr => ⟨fun e => (e3 r hr).1 (hS _ e), (e3 r hr).2⟩, fun x hx => ⟨(e4 x hx).1, fun r hr => ⟨fun e => ((e4 x hx).2 r hr).1 (hS _ e), ((e4 x hx).2 r hr).2⟩⟩⟩
/-- The last one alone. -/
theorem StA.tail {w : World} {S : Nat → Prop} {b off n cap : Nat} {S0 : List (List (List Nat))} {hs : List (List Nat)} (h : StA w S (.slice (some ⟨b, off, none⟩) n cap) (S0 ++ [hs])) : StA w S (.slice (some ⟨b, off + S0.length, none⟩) 1 (cap - S0.length)) [hs] := by
  obtain ⟨ys, h1, h2, h3, h4⟩ := h
  have hl : ys.length = S0.length + 1 := by
    have := congrArg List.length h1
    simpa using this
  obtain ⟨y, hy⟩ : ∃ y, ys = ys.take S0.length ++ [y] := by
    have hy : ys[S0.length]? = some (ys[S0.length]'(by omega)) := List.getElem?_eq_getElem (by omega)
    refine ⟨ys[S0.length]'(by omega), ?_⟩
    conv => lhs; rw [← List.take_of_length_le (l := ys) (i := S0.length + 1) (by omega), List.take_add_one, hy]
    rfl
  have hlt : (ys.take S0.length).length = S0.length := by rw [List.length_take]; omega
  have hys : y.1 = hs := by
    rw [hy, List.map_append] at h1
    have := List.append_inj_right h1 (by rw [List.length_map, hlt])
    simpa using this
  have hmp : ys.map (fun y => sv y.2) = (ys.take S0.length).map (fun y => sv y.2) ++ [sv y.2] := by
    conv => lhs; rw [hy]
    rw [List.map_append]
    rfl
  have ht := h2.tail (us0 := (ys.take S0.length).map fun y => sv y.2) (u := sv y.2) hmp
  rw [List.length_map, hlt] at ht
  refine ⟨[y], by rw [List.map_singleton, hys], ht, fun r hr => h3 r hr, fun x hx => ?_⟩
  rw [List.mem_singleton.1 hx]
  exact h4 y (by rw [hy]; exact List.mem_append.2 (.inr (List.mem_singleton.2 rfl)))
theorem infoSt : (Tryz.prog.info? 50).map (fun i => (i.zero.map (fun z => z.cells.size), i.size, decide (i.bytes ≤ 1000))) = some (some 1, 1, true) := by kernel_rfl
/-- 'append(states, x)'. -/
theorem wpList_appendSt {ops : Array Oper} {rest : List Oper} {A : Act} {Q : Exit → Act → World → Prop} {w wx : World} {S : Nat → Prop} {v : Value} {hss : List (List (List Nat))} (h : StA w S v hss) {a : Option Addr} {n c : Nat} {hs : List (List Nat)} (hu : BlA w (fun b => S b ∨ v.ownBlock = some b) (.slice a n c) hs)
    (hsz : hss.length ≤ 1000) (hS : ∀ b, S b → b < w.heap.size) {dst : Option Tmp} {ty : TypeId} {pos : String} {after : Array Edge} {s y : Operand}
    (hwx : wx = w.alloc (.cells #[.slice a n c] 50)) (hv : A.eval s = v) (hy : A.eval y = .slice (some ⟨w.heap.size, 0, none⟩) 1 1)
    (hk : ∀ v' w', StA w' S v' (hss ++ [hs]) → Mod (fun b => v.ownBlock = some b) w w' → (v'.ownBlock = v.ownBlock ∨ ∃ r, v'.ownBlock = some r ∧ w.heap.size ≤ r) → wpList Tryz.prog ops Q rest (A.put dst v') w') :
    wpList Tryz.prog ops Q ({ dst := dst, op := .call { callee := .builtin .append, args := #[s, y], argTypes := #[61, 61] }, type := ty, pos := pos, after := after, guard := none } :: rest) A wx := by
  subst hwx
  obtain ⟨ys, h1, h2, h3, h4⟩ := h
  obtain ⟨v', w', hr, ho, hm, hown⟩ := run_appendOff (P := Tryz.prog) (t := 61) Tryz.underlying61 infoSt (ty := ty) (u := .slice a n c) h2 (by rw [List.length_map, ← List.length_map (f := fun y : List (List Nat) × Sv => y.1), h1]; omega) rfl
  have hS' : ∀ b, (S b ∨ v'.ownBlock = some b) → (S b ∨ v.ownBlock = some b) ∨ w.heap.size ≤ b := fun b hb => by
    rcases hb with hb | hb
    · exact .inl (.inl hb)
    · rcases hown with e | ⟨r, e, hr⟩
      · exact .inl (.inr (e ▸ hb))
      · rw [e] at hb
        cases hb
        exact .inr hr
  refine wpList_exec rfl (v := v') (w' := w') ?_ (hk v' w' ⟨ys ++ [(hs, (a, n, c))], by rw [List.map_append, h1]; rfl, by rw [List.map_append]; exact ho, fun r hr e => ?_, fun y hy => ?_⟩ hm hown)
  · simp only [execOp, resolve, invoke, builtin, Sem.run_bind, Sem.run_pure, Result.andThen_ok, List.map_toArray, List.map_cons, List.map_nil, hv, hy, hr]
  · rcases hown with e' | ⟨r', e', hr'⟩
    · exact h3 r (e' ▸ hr) e
    · rw [e'] at hr
      cases hr
      have := hS _ e
      omega
  · have hm' : Mod (fun b => S b ∨ v.ownBlock = some b) w w' := hm.mono fun x _ hx => .inr hx
    rcases List.mem_append.1 hy with hy | hy
    · exact (h4 y hy).mod hm' hS'
    · rw [List.mem_singleton.1 hy]
      exact hu.mod hm' hS'
end Go.Proofs.YtbkblhoagfonjaaGreat

/- RedoKept: what it keeps, whole. Plain. -/
namespace Go.Proofs.YtbkblhoagfonjaaGreat
open Go.RowKit Go.Tn Go.Tn.Bt Go.Tn.Lp Go.Tn.Dk
theorem kwrite_Q (d : Dsk) (i : Nat) (b : List Nat) : (d.write i b).Q.length ≤ d.Q.length + 1 := by
  rcases live_write (d := d) i b with ⟨-, -, -, h⟩ | ⟨-, -, -, h⟩
  · rw [h]; omega
  · rw [h, List.length_append, List.length_singleton]; exact Nat.le_refl _
theorem flush_Q (d : Dsk) : d.flush.Q.length ≤ d.Q.length := by
  rcases live_flush (d := d) with ⟨-, -, -, h⟩ | ⟨-, -, -, h⟩
  · rw [h]; exact Nat.le_refl _
  · rw [h]; exact Nat.zero_le _
theorem putPcs_Q (n : Nat) : ∀ (ps : List Pc) (d : Dsk), (putPcs n ps d).1.Q.length ≤ d.Q.length + ps.length
  | [], d => Nat.le_refl _
  | q :: r, d => by
    have h1 := kwrite_Q d (2 + q.ct % n) (sealB q)
    have h2 := putPcs_Q n r (d.write (2 + q.ct % n) (sealB q))
    rw [putPcs, List.length_cons]
    split
    · simp only; omega
    · omega
theorem kbringGo_Q (l : Lg) : ∀ (ks : List Nat) (d : Dsk), (bringGo l ks d).1.Q.length ≤ d.Q.length + ks.length
  | [], d => flush_Q d
  | k :: ks, d => by
    have h1 := kwrite_Q d (2 + l.n + k) ((l.H k).getD [])
    have h2 := kbringGo_Q l ks (d.write (2 + l.n + k) ((l.H k).getD []))
    rw [bringGo, List.length_cons]
    split
    · simp only; omega
    · omega
theorem save_Q (d : Dsk) (a ep : Nat) (x : Hd) : (d.save a ep x).1.Q.length ≤ d.Q.length + 1 := by
  unfold Dsk.save
  split
  · rw [step_Q]; omega
  · have h1 := kwrite_Q d (a + x.gen % 2) (sealB (headPc ep x))
    have h2 := flush_Q (d.write (a + x.gen % 2) (sealB (headPc ep x)))
    simp only
    omega
theorem lwrite_Q {l : Lg} {d : Dsk} {ps : List Pt} : (l.write d ps).2.1.Q.length ≤ d.Q.length + 5000 ∧ (l.write d ps).2.1.L.length = d.L.length := by
  unfold Lg.write
  split
  · exact ⟨by simp only; omega, rfl⟩
  · cases ht : transB ps (l.homes d) with
    | false => exact ⟨by simp, rfl⟩
    | true =>
      rw [if_neg (by simp)]
      have hn := recN ht
      unfold cutB
      split
      · exact ⟨by simp only; omega, rfl⟩
      · rename_i x pcs hc
        have hl : pcs.length ≤ 100 := by
          split at hc
          · cases hc
          · split at hc
            · cases hc
            · cases hc
              rw [cutL_len]
              omega
        have h1 := putPcs_Q l.n pcs d
        have h2 := putPcs_L l.n pcs d
        split
        · exact ⟨by simp only; omega, rfl⟩
        · split
          · exact ⟨by simp only; omega, h2⟩
          · exact ⟨by simp only; omega, h2⟩
theorem lsync_Q {l : Lg} {d : Dsk} : (l.sync d).2.Q.length ≤ d.Q.length ∧ (l.sync d).2.L.length = d.L.length := by
  unfold Lg.sync
  split
  · exact ⟨Nat.le_refl _, rfl⟩
  · exact ⟨flush_Q d, flush_L d⟩
theorem kbringGo_L (l : Lg) : ∀ (ks : List Nat) (d : Dsk), (bringGo l ks d).1.L.length = d.L.length
  | [], d => flush_L d
  | k :: ks, d => by
    rw [bringGo]
    split
    · show (d.write _ _).L.length = _
      rw [write_L]
    · rw [kbringGo_L l ks, write_L]
theorem ksave_L (d : Dsk) (a ep : Nat) (x : Hd) : (d.save a ep x).1.L.length = d.L.length := by
  unfold Dsk.save
  split
  · rw [step_L]
  · show (Dsk.flush _).L.length = _
    rw [flush_L, write_L]
theorem lcheck_Q {l : Lg} {d : Dsk} (hd : d.L.length ≤ 4096) : (l.check d).2.1.Q.length ≤ d.Q.length + 5000 ∧ (l.check d).2.1.L.length = d.L.length := by
  obtain ⟨s1, s2⟩ := lsync_Q (l := l) (d := d)
  unfold Lg.check
  generalize (l.sync d).2 = d1 at *
  generalize (l.sync d).1 = l1 at *
  have hk : (l.keys d1).length ≤ 4096 := by
    unfold Lg.keys Lg.homes
    have h1 := List.length_filter_le (fun k => (l.H k).isSome) (List.range (d1.L.length - 2 - l.n))
    rw [List.length_range] at h1
    omega
  have b1 : (l.bring d1).1.Q.length ≤ d1.Q.length + (l.keys d1).length := kbringGo_Q l _ d1
  have b2 : (l.bring d1).1.L.length = d1.L.length := kbringGo_L l _ d1
  have c1 := save_Q (l.bring d1).1 0 l.epoch ⟨l.gen + 1, l.next, l.epoch⟩
  have c2 := ksave_L (l.bring d1).1 0 l.epoch ⟨l.gen + 1, l.next, l.epoch⟩
  split
  · exact ⟨by simp only; omega, s2⟩
  · split
    · exact ⟨by simp only; omega, s2⟩
    · split
      · exact ⟨by simp only; omega, b2.trans s2⟩
      · split
        · exact ⟨by simp only; omega, by simp only; omega⟩
        · exact ⟨by simp only; omega, by simp only; omega⟩
def KInv (n i : Nat) (l : Lg) (d : Dsk) (S : List (List (List Nat))) : Prop := KLive n i l d S ∨ KDead n i l d S
theorem KInv.ok {n i : Nat} {l : Lg} {d : Dsk} {S : List (List (List Nat))} (h : KInv n i l d S) (hi : i ≤ 1000) : l.ok d := by
  rcases h with h | h
  · obtain ⟨F, D, P, hr, -, -⟩ := h.ex
    exact hr.fit.ok (by have := h.nx; omega)
  · exact h.fit.ok (by have := h.nx; omega)
theorem KInv.rn {n i : Nat} {l : Lg} {d : Dsk} {S : List (List (List Nat))} (h : KInv n i l d S) : l.n = n := by
  rcases h with h | h
  · exact h.rn
  · exact h.rn
theorem KInv.mono {n i j : Nat} {l : Lg} {d : Dsk} {S : List (List (List Nat))} (h : KInv n i l d S) (hij : i ≤ j) : KInv n j l d S := h.imp (·.mono hij) (·.mono hij)
theorem KInv.outs {n i : Nat} {l : Lg} {d : Dsk} {S : List (List (List Nat))} (h : KInv n i l d S) : Outs n i d S := by
  rcases h with h | h
  · exact h.outs
  · exact h.outs
theorem KInv.arm {n i : Nat} {l : Lg} {d : Dsk} {S : List (List (List Nat))} (h : KInv n i l d S) {x : Int} (hx : x < 9223372036854775808) : KInv n i l (d.arm x) S := by
  rcases h with h | h
  · by_cases h0 : x < 0 ∨ d.off = true
    · rw [show d.arm x = d by unfold Dsk.arm; rw [if_pos h0]]
      exact .inl h
    · obtain ⟨F, D, P, hr, hF, hS⟩ := h.ex
      have hok := hr.dok.arm hx
      have e : d.arm x = { d with fuse := x.toNat, fused := true } := by unfold Dsk.arm; rw [if_neg h0]
      rw [e] at hok ⊢
      have hlg : ∀ j, ({ d with fuse := x.toNat, fused := true } : Dsk).last.get j = d.last.get j := fun j => rfl
      refine .inl ⟨⟨F, D, P, ⟨hr.fit.disk rfl, hok, hr.base.congr hr.next.2.2 rfl hr.fit.n2 (fun j _ => hlg j) rfl rfl rfl rfl, hr.q, hr.gs, hr.nx, hr.H⟩, hF, hS⟩, h.kp.congr (fun j _ => hlg j) (fun j _ => hlg j) rfl rfl rfl, h.on, h.err, h.rn, h.ep, h.nx, h.gen⟩
  · rw [show d.arm x = d by unfold Dsk.arm; rw [if_pos (.inr h.off)]]
    exact .inr h
theorem arm_L (d : Dsk) (x : Int) : (d.arm x).L = d.L ∧ (d.arm x).Q = d.Q := by
  unfold Dsk.arm
  split <;> exact ⟨rfl, rfl⟩
end Go.Proofs.YtbkblhoagfonjaaGreat
