/- Which writes wait: Waiting walked. -/
import Derived.Test.YtbdjkbaieokbhaaWm
import Derived.Test.YtbdjkbaieokbhaaAsks
import Derived.Test.YtbdjkbaieokbhaaShelf
import Derived.Sort.OwnSortedInts
import Derived.Lib.SlKeysI
namespace Go.Proofs.Ytbdjkbaieokbhaa
open Go.RowKit Go.Tn Go.Tn.Ghost Go.Sort

abbrev natInts (l : List Nat) : List Int := l.map fun j : Nat => (j : Int)
theorem wait_sorted {c fi fg : Int} {E : Nat → Evt} {n : Nat} {xs : List Nat} (h : xs.Perm (waits c fi fg E n n)) : (natInts xs).mergeSort leI = natInts (waits c fi fg E n n) := by
  rw [mergeSort_of_perm_i (h.map _)]
  refine List.mergeSort_of_pairwise ?_
  refine List.pairwise_map.2 ?_
  exact (waits_sorted c fi fg E n n).imp fun h => decide_eq_true (Int.ofNat_le.2 (Nat.le_of_lt h))
theorem map_iv (xs : List Nat) : xs.map iv = (natInts xs).map (Value.int .i64) := by simp [natInts]
theorem Own1.intSl {w : World} {v : Value} {ys : List Int} (h : Own1 w 3 v (ys.map (Value.int .i64))) : IntSl w v ys := by
  rcases h.form with ⟨rfl, h0⟩ | ⟨g, cap, cur, rfl, hle, hcm, hg, hcs, hcur⟩
  · have : ys = [] := by simpa using h0
    subst this
    exact ⟨none, 0, rfl, Nat.zero_le _, fun h => absurd h (Nat.lt_irrefl _)⟩
  · rw [List.length_map] at hle ⊢
    exact ⟨_, _, rfl, by omega, fun _ => ⟨g, 0, rfl, fun i x hi => by
      rw [Nat.zero_add]
      exact cell_of hg (hcur i _ (by simp [hi]))⟩⟩

theorem wpList_appendL {ops : Array Oper} {rest : List Oper} {a : Act} {Q : Exit → Act → World → Prop} {w : World} {v u : Value} {xs ys : List Nat} (h : Own1 w 3 v (xs.map iv)) (hu : Own1 w 3 u (ys.map iv)) (hsz : xs.length + ys.length ≤ 1000) {d : Nat} {ty : TypeId} {pos : String} {after : Array Edge} {s y : Operand}
    (hs : a.eval s = v) (hy : a.eval y = u)
    (hk : ∀ v' w', Own1 w' 3 v' ((xs ++ ys).map iv) → w.grownBy w' v.ownBlock → (v'.ownBlock = v.ownBlock ∨ v'.ownBlock = some w.heap.size) → wpList Try.prog ops Q rest (a.put (some d) v') w') :
    wpList Try.prog ops Q ({ dst := some d, op := .call { callee := .builtin .append, args := #[s, y], argTypes := #[23, 23] }, type := ty, pos := pos, after := after, guard := none } :: rest) a w := by
  obtain ⟨i, hi, hz0, hz1, hz2⟩ := info_parts info3
  obtain ⟨v', w', hr, ho, hg, hl⟩ := exec_append1 (P := Try.prog) (w := w) (ρ := a.eval) (dst := some d) (ty := ty) (pos := pos) (after := after) (gd := none) Try.underlying23 hi hz0 hz1 hz2 rfl h hu (by
    intro y hy
    obtain ⟨n, _, rfl⟩ := List.mem_map.1 hy
    rfl) (by unfold maxLen; simp; omega) (by simp; omega) hs hy
  exact wpList_exec rfl hr (hk v' w' (by rw [List.map_append]; exact ho) hg hl)

/-- The library's sort of what was collected. -/
theorem sort_any (w : World) (B : Nat) (v : Value) (xs : List Nat) (h : Own1 w 3 v (xs.map iv)) (hl : xs.length ≤ 1000) (hB : B ≤ w.heap.size) (hlo : ∀ r, v.ownBlock = some r → B ≤ r) :
    Calls Try.prog 16 #[v] w fun e w' => e = .returned (.tuple #[]) ∧ IntSl w' v ((natInts xs).mergeSort leI) ∧ Below B w w' := by
  rcases h.2 with ⟨hv, h0⟩ | ⟨g, cap, cur, hv, hbase, hg, hn, hm, hs, ht⟩
  · have hx : xs = [] := by simpa using h0
    subst hx
    subst hv
    refine (Try.slices_Sort_int_none none 0 w).mono ?_
    rintro e w' ⟨rfl, rfl⟩
    exact ⟨rfl, ⟨none, 0, by simp [natInts], by simp [natInts], fun h => by simp [natInts] at h⟩, Below.refl _ _⟩
  · subst hv
    have hlen : (xs.map iv).length = (natInts xs).length := by simp [natInts]
    have ht' : cur.toList.take (natInts xs).length = (natInts xs).map (Value.int .i64) := by
      rw [← map_iv, ← hlen, ← ht]
      simp
    have hH := holds_of_blockI hg ht'
    have hc := Try.slices_Sort_int g 0 cap (natInts xs) w hH (lt_of_block hg) (by simp [natInts]; omega)
    rw [← hlen] at hc
    refine hc.mono ?_
    rintro e w' ⟨rfl, n', os, rfl⟩
    have hgr := grownBy_sortedI (w := w) (g := g) (n := n') (os := os) ((natInts xs).mergeSort leI).toArray
    have hrow := ownsRow_sortedI (w := w) (base := 0) (n := n') (os := os) (ss := natInts xs) (ts := (natInts xs).mergeSort leI) (List.length_mergeSort _) (Nat.zero_le _) hg (by rw [← hlen]; exact hn) hm (by simpa using hs)
    have hown : Own1 (grow (putRow (Value.int .i64) (Sort.ahead w n') g 0 ((natInts xs).mergeSort leI).toArray) os) 3 (.slice (some ⟨g, 0, none⟩) (xs.map iv).length cap) (((natInts xs).mergeSort leI).map (Value.int .i64)) := by
      have hl1 : (((natInts xs).mergeSort leI).map (Value.int .i64)).length = (natInts xs).length := by simp
      unfold Own1
      rw [hl1, hlen]
      exact hrow
    exact ⟨rfl, Own1.intSl hown, (Below.refl B w).grown hgr hB (fun k hk => hlo k hk)⟩

set_option maxHeartbeats 4000000 in
theorem waiting_any (w : World) (v : Value) (n : Nat) (E : Nat → Evt) (hE : EvSl w v n E) (hn : n ≤ 60) (c fi fg : Int) :
    Calls Try.prog 11 #[v, .int .i64 c, .agg #[.int .i64 fi, .int .i64 fg]] w fun e w' => (∃ v', e = .returned v' ∧ IntSl w' v' (natInts (waits c fi fg E n n))) ∧ Below w.heap.size w w' := by
  have hW : Below w.heap.size w (w.alloc (.cells #[.int .i64 fi, .int .i64 fg] 31)) := (Below.refl _ _).alloc (Nat.le_refl _) _
  have hE1 := hE.below hW
  go_enter Try.func11, Try.ntmps11
  go_wp2_with fail
  refine (read_any _ v n E hE1 hn).mono ?_
  rintro en w2 ⟨b, bf, rfl, hbf, ⟨S, bo, bl, Lo, co, Ll, cl, hR, hbk⟩, hb2⟩
  have hz2 : w.heap.size < w2.heap.size := by have := hb2.size; simp at this; omega
  have z0 : w2.cell? ⟨w.heap.size, 0, none⟩ = some (.int .i64 fi) := by rw [hb2.cell (p := ⟨w.heap.size, 0, none⟩) (by simp)]; exact cell_of heap_alloc_at rfl
  have z1 : w2.cell? ⟨w.heap.size, 1, none⟩ = some (.int .i64 fg) := by rw [hb2.cell (p := ⟨w.heap.size, 1, none⟩) (by simp)]; exact cell_of heap_alloc_at rfl
  have hbel2 : Below w.heap.size w w2 := hW.trans (hb2.mono (by simp))
  have hob := hbk.o.blk
  have hbol := lt_of_block hob
  obtain ⟨c0, c1, c2⟩ := hbk.cells
  have hnil : ∀ p, (∀ e ∈ Lo, e.1 ≠ p) → S.op p = [] := fun p hp => by
    have hn : Go.Tn.get p Lo = none := get_none.2 hp
    rcases (hbk.o.own p).form with ⟨_, hx⟩ | ⟨g, cap, cur, hv, _⟩
    · simpa using hx
    · simp [Go.Tn.getD, hn] at hv
  have HN := Lib.hid hnil
  clear hnil hE hE1 hW hb2 c0 c2
  go_wp2_with (first
    | ((with_reducible refine list_range hob ?_ ?_); rfl; go_frame)
    | fail)
  clear c1
  go_loopw [7] (fun ov wr => ∃ seen xs, Coll c fi fg S Lo seen xs ∧ Own1 wr 3 ov (xs.map iv) ∧ (∀ r, ov.ownBlock = some r → w2.heap.size ≤ r) ∧ wr.heap[w2.heap.size]? = some (.mapIter (some bo) co seen co) ∧ Below w2.heap.size w2 wr) (fun _ wr => iterLeft wr w2.heap.size bo)
  case atStart => exact ⟨#[], [], Coll.start c fi fg S Lo, ⟨rfl, .inl ⟨rfl, rfl⟩⟩, (fun r hr => by cases hr), heap_alloc_at, (Below.refl _ _).alloc (Nat.le_refl _) _⟩
  case round =>
    obtain ⟨seen, xs, hco, hown, hlo, hit, hbel⟩ := hrel
    have hbo : wr.heap[bo]? = some (.map (ents encP Lo) co) := (hbel.block bo hbol).trans hob
    have hiz := lt_of_block hit
    rcases run_next (P := Try.prog) (ty := 0) hbo hit hbk.o.wf.lt with ⟨hall, hrun⟩ | ⟨e, he, hns, nd, hrun⟩
    · have hsorted := wait_sorted (hco.perm hR HN.out hall)
      have hlen := hco.len hR
      have hs := sort_any wr w2.heap.size _ xs hown (by omega) hbel.size hlo
      rw [hsorted] at hs
      have HS := Lib.hid hs
      clear hs hsorted
      go_wp2_with (first
        | ((with_reducible refine wpList_exec rfl (exec_next_of hrun ?_) ?_); rfl)
        | fail)
      refine HS.out.mono ?_
      rintro e w3 ⟨rfl, hsl, hb3⟩
      go_wp2
      go_ret
      exact ⟨⟨_, rfl, hsl⟩, hbel2.trans ((hbel.trans hb3).mono (Nat.le_of_lt hz2))⟩
    · have hleft := iterLeft_eq hit hbo
      have hlt := left_push hbk.o.wf he hns
      have hmod2 := (setObjW_mod (w := wr.drewN nd) w2.heap.size (.mapIter (some bo) co (seen.push e.2.2) co))
      have hit2 := setObjW_at (w := wr.drewN nd) (o := .mapIter (some bo) co (seen.push e.2.2) co) hiz
      have hbel3 : Below w2.heap.size w2 (setObjW (wr.drewN nd) w2.heap.size (.mapIter (some bo) co (seen.push e.2.2) co)) := (below_drewN hbel nd).trans (hmod2.below hbel.size (fun x hx e => by omega))
      have hne : ∀ r, u7.ownBlock = some r → r ≠ w2.heap.size := fun r hr hrr => by
        obtain ⟨cur, hcur⟩ := Own1.cells hown hr
        rw [hrr, hit] at hcur
        cases hcur
      have hown2 : Own1 (setObjW (wr.drewN nd) w2.heap.size (.mapIter (some bo) co (seen.push e.2.2) co)) 3 u7 (xs.map iv) := hown.kept fun r hr => (hmod2.block r (by simpa using Own1.lt hown hr) (hne r hr))
      generalize setObjW (wr.drewN nd) w2.heap.size (.mapIter (some bo) co (seen.push e.2.2) co) = w3 at *
      obtain ⟨m, hm⟩ := List.getElem?_of_mem he
      have hbo3 : w3.heap[bo]? = some (.map (ents encP Lo) co) := (hbel3.block bo hbol).trans hob
      have hent : (Instr.entry (.pointer (some ⟨w2.heap.size, 0, none⟩))).run Try.prog w3 = .ok (.tuple #[.agg #[.int .i64 e.1.c, .int .i64 e.1.i, .int .i64 e.1.g, .int .i64 e.1.a], e.2.1]) w3 :=
        run_entry (P := Try.prog) hbo3 hit2 hm (hbk.o.wf.stamp hm)
      have hsz3 : w2.heap.size ≤ w3.heap.size := hbel3.size
      have hbel4 := hbel3.alloc hsz3 (.cells #[.int .i64 e.1.c, .int .i64 e.1.i, .int .i64 e.1.g, .int .i64 e.1.a] 52)
      have hit4 : (w3.alloc (.cells #[.int .i64 e.1.c, .int .i64 e.1.i, .int .i64 e.1.g, .int .i64 e.1.a] 52)).heap[w2.heap.size]? = _ := heap_alloc_of hit2
      have hown4 : Own1 (w3.alloc (.cells #[.int .i64 e.1.c, .int .i64 e.1.i, .int .i64 e.1.g, .int .i64 e.1.a] 52)) 3 u7 (xs.map iv) := hown2.kept fun r hr => heap_alloc_lt (Own1.lt hown2 hr)
      obtain ⟨x0, x1, x2, x3⟩ := box_lies (w := w3.alloc (.cells #[.int .i64 e.1.c, .int .i64 e.1.i, .int .i64 e.1.g, .int .i64 e.1.a] 52)) (n := w3.heap.size) (p := e.1) heap_alloc_at
      have hu4 : Own1 (w3.alloc (.cells #[.int .i64 e.1.c, .int .i64 e.1.i, .int .i64 e.1.g, .int .i64 e.1.a] 52)) 3 e.2.1 ((S.op e.1).map iv) := by
        have := hbk.o.own e.1
        unfold Go.Tn.getD at this
        rw [get_of_mem hbk.o.wf he] at this
        exact Own1.kept this fun r hr => hbel4.block r (Own1.lt this hr)
      have y0 : (w3.alloc (.cells #[.int .i64 e.1.c, .int .i64 e.1.i, .int .i64 e.1.g, .int .i64 e.1.a] 52)).cell? ⟨w.heap.size, 0, none⟩ = some (.int .i64 fi) := by rw [hbel4.cell (p := ⟨w.heap.size, 0, none⟩) hz2]; exact z0
      have y1 : (w3.alloc (.cells #[.int .i64 e.1.c, .int .i64 e.1.i, .int .i64 e.1.g, .int .i64 e.1.a] 52)).cell? ⟨w.heap.size, 1, none⟩ = some (.int .i64 fg) := by rw [hbel4.cell (p := ⟨w.heap.size, 1, none⟩) hz2]; exact z1
      go_upto_region 5 with (first
        | ((with_reducible refine wpList_exec rfl (exec_next_of hrun ?_) ?_); rfl; go_frame)
        | ((with_reducible refine wpList_exec rfl (exec_entry_of hent ?_) ?_); rfl; go_frame)
        | fail)
      obtain ⟨w4, hw4⟩ : ∃ w4, w3.alloc (.cells #[.int .i64 e.1.c, .int .i64 e.1.i, .int .i64 e.1.g, .int .i64 e.1.a] 52) = w4 := ⟨_, rfl⟩
      rw [hw4] at hbel4 hit4 hown4 hu4 x0 x1 x2 x3 y0 y1
      rw [hw4]
      clear hw4 hrun hent hmod2 hit2 hbo3 hbel3 hown2 hown hbo
      have hbo4 : w4.heap[bo]? = some (.map (ents encP Lo) co) := (hbel4.block bo hbol).trans hob
      have hleft4 := iterLeft_eq hit4 hbo4
      have HM := Lib.hid (show iterLeft w4 w2.heap.size bo < iterLeft wr w2.heap.size bo by rw [hleft4, hleft]; exact hlt)
      clear hleft hleft4 hlt hit
      by_cases hg : good c fi fg e.1
      · have hmore := hco.more hR hbk.o.wf he hns hg
        have hl2 := hmore.len hR
        have hl3 : xs.length + (S.op e.1).length ≤ 1000 := by rw [List.length_append] at hl2; omega
        have t1 : (e.1.c == c) = true := by simpa using hg.1
        have t2 : (e.1.i == fi) = true := by simpa using hg.2.1
        have t3 : (e.1.g == fg) = true := by simpa using hg.2.2
        clear hg hl2
        go_wp2_with (first
          | ((with_reducible refine wpList_appendL hown4 hu4 hl3 ?_ ?_ ?_); rfl; rfl; (intro v5 w5 ho5 hg5 hl5); go_frame)
          | fail)
        have hn4 : u7.ownBlock ≠ some w2.heap.size := fun h => hne _ h rfl
        have hit5 : w5.heap[w2.heap.size]? = _ := (hg5.block _ (lt_of_block hit4) (fun h => hn4 h.symm)).trans hit4
        have hbel5 : Below w2.heap.size w2 w5 := hbel4.grown hg5 hbel4.size (fun k hk => hlo k hk)
        have hbo5 : w5.heap[bo]? = some (.map (ents encP Lo) co) := (hbel5.block bo hbol).trans hob
        have hm5 : iterLeft w5 w2.heap.size bo < iterLeft wr w2.heap.size bo := by
          have h1 := HM.out
          rw [iterLeft_eq hit4 hbo4] at h1
          rw [iterLeft_eq hit5 hbo5]
          exact h1
        refine ⟨⟨_, _, hmore, ho5, fun r hr => ?_, hit5, hbel5⟩, hm5⟩
        rcases hl5 with h | h
        · exact hlo r (h ▸ hr)
        · rw [h] at hr
          cases hr
          exact hbel4.size
      · have hskip := hco.skip hbk.o.wf he hg
        by_cases h1 : e.1.c = c
        · have t1 : (e.1.c == c) = true := by simpa using h1
          by_cases h2 : e.1.i = fi
          · have t2 : (e.1.i == fi) = true := by simpa using h2
            have t3 : (e.1.g == fg) = false := by simpa using fun h3 => hg ⟨h1, h2, h3⟩
            clear hg h1 h2
            go_wp2
            go_roundw
            case rel => exact ⟨_, _, hskip, hown4, hlo, hit4, hbel4⟩
            case measure => exact HM.out
          · have t2 : (e.1.i == fi) = false := by simpa using h2
            clear hg h1 h2
            go_wp2
            go_roundw
            case rel => exact ⟨_, _, hskip, hown4, hlo, hit4, hbel4⟩
            case measure => exact HM.out
        · have t1 : (e.1.c == c) = false := by simpa using h1
          clear hg h1
          go_wp2
          go_roundw
          case rel => exact ⟨_, _, hskip, hown4, hlo, hit4, hbel4⟩
          case measure => exact HM.out
end Go.Proofs.Ytbdjkbaieokbhaa
