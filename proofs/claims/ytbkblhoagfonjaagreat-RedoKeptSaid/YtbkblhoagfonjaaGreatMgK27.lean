/- The disk's Waits, where nothing waits; puts apart from what is made later; plain facts of Write. -/
import Derived.Test.YtbkblhoagfonjaaGreatMgK26
import Derived.Test.YtbkblhoagfonjaaGreatMgK25
import Derived.Test.YtbkblhoagfonjaaGreatMgK22
import Derived.Test.YtbkblhoagfonjaaGreatMgK24
import Derived.Test.YtbkblhoagfonjaaGreatMgK23
/- The disk: kept, walked. -/
namespace Go.Proofs.YtbkblhoagfonjaaGreat
open Go.RowKit Go.Tn Go.Tn.Bt Go.Tn.Lp Go.Tn.Dk
set_option maxRecDepth 20000 in
set_option maxHeartbeats 4000000 in
theorem kept_any {w : World} {p : Nat} {qa : Option Addr} {L0 f0 fd0 o0 : Value} {N qc : Nat} (hp : w.heap[p]? = some (.cells #[L0, .slice qa N qc, f0, fd0, o0] 67 (0, 0))) (hN : N ≤ 1000000000) (i : Nat) (hi : i < N) (v : Value) (ks : List Int) (hv : LSl enI 1 w v ks) (torn : Int) :
    Calls Tryz.prog 66 #[.pointer (some ⟨p, 0, none⟩), .int .i64 i, v, .int .i64 torn] w fun e w' => e = .returned (.int .i64 (keptN N i ks torn : Nat)) ∧ w' = w := by
  have c1 := cell_of (o := 1) hp rfl
  obtain ⟨ao, cap, rfl, hv1, hv2, hv3⟩ := hv
  unfold maxLen at hv2
  have hN1 : (1 : Int) ≤ (N : Int) := by omega
  have hN2 : (N : Int) ≤ 1000000000 := by omega
  have hK2 : (ks.length : Int) ≤ 9223372036854775807 := by omega
  clear hp
  unfold keptN
  by_cases hA : i + 1 = N ∧ 0 < torn ∧ torn < 128
  · rw [if_pos hA]
    obtain ⟨h1, h2, h3⟩ := hA
    have e1 : ((i : Int) == (N : Int) - 1) = true := by rw [beq_iff_eq]; omega
    have e2 : decide (0 < torn) = true := by simp [h2]
    have e3 : decide (torn < 128) = true := by simp [h3]
    have e4 : ((torn.toNat : Nat) : Int) = torn := by omega
    rw [e4]
    clear hv3
    go_enter Tryz.func66, Tryz.ntmps66
    go_wp2
    go_ret
    exact ⟨rfl, rfl⟩
  · rw [if_neg hA]
    by_cases hB : i < ks.length
    · obtain ⟨z, hz⟩ : ∃ z, ks[i]? = some z := ⟨_, List.getElem?_eq_getElem hB⟩
      obtain ⟨b, o, rfl, hlt, hc⟩ := hv3 (by omega)
      have hc0 : w.cell? ⟨b, o + i, none⟩ = some (.int .i64 z) := by simpa using hc i z hz 0 (by simp [enI])
      have hgd : ks.getD i 0 = z := by rw [List.getD_eq_getElem?_getD, hz]; rfl
      rw [hgd]
      have e5 : decide ((i : Int) < (ks.length : Int)) = true := by simp; omega
      have e6 : (i : Int) < (ks.length : Int) := by omega
      by_cases hz0 : z = 0
      · subst hz0
        rw [if_neg (by simp)]
        clear hc
        by_cases h1 : i + 1 = N
        · have e1 : ((i : Int) == (N : Int) - 1) = true := by rw [beq_iff_eq]; clear hA; omega
          by_cases h2 : 0 < torn
          · have e2 : decide (0 < torn) = true := by simp [h2]
            have e3 : decide (torn < 128) = false := decide_eq_false fun h => hA ⟨h1, h2, h⟩
            go_enter Tryz.func66, Tryz.ntmps66
            go_wp2
            go_ret
            exact ⟨rfl, rfl⟩
          · have e2 : decide (0 < torn) = false := decide_eq_false h2
            go_enter Tryz.func66, Tryz.ntmps66
            go_wp2
            go_ret
            exact ⟨rfl, rfl⟩
        · have e1 : ((i : Int) == (N : Int) - 1) = false := beq_eq_false_iff_ne.2 (by clear hA; omega)
          go_enter Tryz.func66, Tryz.ntmps66
          go_wp2
          go_ret
          exact ⟨rfl, rfl⟩
      · rw [if_pos ⟨hB, hz0⟩]
        have e7 : (z != 0) = true := by rw [bne_iff_ne]; exact hz0
        clear hc
        by_cases h1 : i + 1 = N
        · have e1 : ((i : Int) == (N : Int) - 1) = true := by rw [beq_iff_eq]; clear hA; omega
          by_cases h2 : 0 < torn
          · have e2 : decide (0 < torn) = true := by simp [h2]
            have e3 : decide (torn < 128) = false := decide_eq_false fun h => hA ⟨h1, h2, h⟩
            go_enter Tryz.func66, Tryz.ntmps66
            go_wp2
            go_ret
            exact ⟨rfl, rfl⟩
          · have e2 : decide (0 < torn) = false := decide_eq_false h2
            go_enter Tryz.func66, Tryz.ntmps66
            go_wp2
            go_ret
            exact ⟨rfl, rfl⟩
        · have e1 : ((i : Int) == (N : Int) - 1) = false := beq_eq_false_iff_ne.2 (by clear hA; omega)
          go_enter Tryz.func66, Tryz.ntmps66
          go_wp2
          go_ret
          exact ⟨rfl, rfl⟩
    · rw [if_neg (by simp [hB])]
      have e5 : decide ((i : Int) < (ks.length : Int)) = false := by simp; omega
      clear hv3
      by_cases h1 : i + 1 = N
      · have e1 : ((i : Int) == (N : Int) - 1) = true := by rw [beq_iff_eq]; clear hA; omega
        by_cases h2 : 0 < torn
        · have e2 : decide (0 < torn) = true := by simp [h2]
          have e3 : decide (torn < 128) = false := decide_eq_false fun h => hA ⟨h1, h2, h⟩
          go_enter Tryz.func66, Tryz.ntmps66
          go_wp2
          go_ret
          exact ⟨rfl, rfl⟩
        · have e2 : decide (0 < torn) = false := decide_eq_false h2
          go_enter Tryz.func66, Tryz.ntmps66
          go_wp2
          go_ret
          exact ⟨rfl, rfl⟩
      · have e1 : ((i : Int) == (N : Int) - 1) = false := beq_eq_false_iff_ne.2 (by clear hA; omega)
        go_enter Tryz.func66, Tryz.ntmps66
        go_wp2
        go_ret
        exact ⟨rfl, rfl⟩
end Go.Proofs.YtbkblhoagfonjaaGreat

/- The disk: a sector torn, in memory. -/
namespace Go.Tn.Dk
open Go.RowKit Go.Tn Go.Tn.Lp
theorem enS_at (s : List Nat) {j : Nat} (hj : j < 128) : (enS s)[j]? = some (.int .u8 ((s.getD j 0 : Nat) : Int)) := by
  simp [enS, hj]
theorem tornB_len {m : Nat} {q s : List Nat} (hm : m ≤ 128) (hq : q.length = 128) (hs : s.length = 128) : (tornB m q s).length = 128 := by
  unfold tornB
  rw [List.length_append, List.length_take, List.length_drop]
  omega
theorem tornB_getD {m : Nat} {q s : List Nat} (hm : m ≤ 128) (hq : q.length = 128) (hs : s.length = 128) {j : Nat} (hj : j < 128) : (tornB m q s).getD j 0 = if j < m then q.getD j 0 else s.getD j 0 := by
  unfold tornB
  rw [List.getD_eq_getElem?_getD, List.getD_eq_getElem?_getD, List.getD_eq_getElem?_getD]
  by_cases h : j < m
  · rw [if_pos h, List.getElem?_append_left (by rw [List.length_take]; omega), List.getElem?_take_of_lt h]
  · rw [if_neg h, List.getElem?_append_right (by rw [List.length_take]; omega), List.length_take, Nat.min_eq_left (by omega), List.getElem?_drop, show m + (j - m) = j by omega]
theorem secB.torn {m : Nat} {q s : List Nat} (hm : m ≤ 128) (hq : secB q) (hs : secB s) : secB (tornB m q s) := by
  refine ⟨tornB_len hm hq.1 hs.1, fun x hx => ?_⟩
  rcases List.mem_append.1 hx with hx | hx
  · exact hq.2 x (List.mem_of_mem_take hx)
  · exact hs.2 x (List.mem_of_mem_drop hx)
theorem keptN_le (n i : Nat) (keep : List Int) (torn : Int) : keptN n i keep torn ≤ 128 := by
  unfold keptN
  split
  · omega
  · split <;> omega
theorem crashL_append (n : Nat) (keep : List Int) (torn : Int) (q : Nat × List Nat) : ∀ (Q : List (Nat × List Nat)) (i : Nat) (L : List (List Nat)),
    crashL n keep torn i (Q ++ [q]) L = (crashL n keep torn i Q L).set q.1 (tornB (keptN n (i + Q.length) keep torn) q.2 ((crashL n keep torn i Q L).getD q.1 []))
  | [], i, L => rfl
  | x :: Q, i, L => by
    rw [List.cons_append, crashL, crashL_append n keep torn q Q, crashL, List.length_cons, show i + 1 + Q.length = i + (Q.length + 1) by omega]
theorem crashL_take (n : Nat) (keep : List Int) (torn : Int) (Q : List (Nat × List Nat)) (L : List (List Nat)) (k : Nat) (q : Nat × List Nat) (h : Q[k]? = some q) :
    crashL n keep torn 0 (Q.take (k + 1)) L = (crashL n keep torn 0 (Q.take k) L).set q.1 (tornB (keptN n k keep torn) q.2 ((crashL n keep torn 0 (Q.take k) L).getD q.1 [])) := by
  have hk := (List.getElem?_eq_some_iff.1 h).1
  rw [List.take_add_one, h]
  show crashL n keep torn 0 (Q.take k ++ [q]) L = _
  rw [crashL_append, List.length_take, Nat.min_eq_left (by omega), Nat.zero_add]
theorem crashL_sec {n : Nat} {keep : List Int} {torn : Int} {N : Nat} : ∀ (Q : List (Nat × List Nat)) (i : Nat) (L : List (List Nat)), (∀ q ∈ Q, q.1 < N ∧ secB q.2) → L.length = N → (∀ s ∈ L, secB s) → ∀ s ∈ crashL n keep torn i Q L, secB s
  | [], _, _, _, _, hL => hL
  | q :: Q, i, L, h, hN, hL => by
    have hq := h q List.mem_cons_self
    refine crashL_sec Q _ _ (fun r hr => h r (List.mem_cons_of_mem _ hr)) (by rw [List.length_set]; exact hN) fun s hs => ?_
    rcases List.mem_or_eq_of_mem_set hs with hs | rfl
    · exact hL s hs
    · refine secB.torn (keptN_le _ _ _ _) hq.2 ?_
      rw [List.getD_eq_getElem?_getD, List.getElem?_eq_getElem (by omega)]
      exact hL _ (List.getElem_mem (by omega))
theorem Dsk.ok.crash {d : Dsk} (h : d.ok) (keep : List Int) (torn : Int) : (d.crash keep torn).ok :=
  ⟨by rw [crash_L]; exact h.lo, by rw [crash_L]; exact h.hi, crashL_sec d.Q 0 d.L h.que rfl h.sec, fun q hq => (by cases hq), Nat.zero_le _, h.fuse⟩
end Go.Tn.Dk
namespace Go.Proofs.YtbkblhoagfonjaaGreat
open Go.RowKit Go.Tn Go.Tn.Bt Go.Tn.Lp Go.Tn.Dk
/-- A part of a sector copied into one that lasts. -/
theorem copy_torn {B : Nat} {w : World} {r n cap : Nat} {xs : List (List Nat)} (h : LOut enS 128 115 B w (.slice (some ⟨r, 0, none⟩) n cap) xs) {i : Nat} (hi : i < xs.length) (hsec : ∀ s ∈ xs, secB s)
    {b m c : Nat} (hm : m ≤ 128) {q : List Nat} (hq : secB q) (hl : Lies w b 1 (enS q).toArray) (hbr : b ≠ r) :
    ∃ w', (∀ (ρ : Operand → Value) (dst : Option Tmp) (ty : TypeId) (pos : String) (after : Array Edge) (g : Option (Nat × Bool)) (x y : Operand), ρ x = .slice (some ⟨r, i * 128, none⟩) m c → ρ y = .slice (some ⟨b, 1, none⟩) 128 128 →
      (execOp ρ ⟨dst, .call { callee := .builtin .copy, args := #[x, y], argTypes := #[53, 53] }, ty, pos, after, g⟩).run Tryz.prog w = .ok (.value (.int .i64 m)) w') ∧
      LOut enS 128 115 B w' (.slice (some ⟨r, 0, none⟩) n cap) (xs.set i (tornB m q (xs.getD i []))) ∧ Mod (fun x => x = r) w w' := by
  obtain ⟨-, hn, h1, h2, cur, hb, h3, h4, hln⟩ := h.whole
  have hsi : xs.getD i [] = xs[i] := by rw [List.getD_eq_getElem?_getD, List.getElem?_eq_getElem hi]; rfl
  have hs := hsec _ (List.getElem_mem hi)
  rw [hsi]
  have hfit : i * 128 + 128 ≤ cur.size := by
    have : (i + 1) * 128 ≤ cap * 128 := Nat.mul_le_mul_right 128 (by omega)
    omega
  have hcl : ((enS q).take m).length = m := by rw [List.length_take, enS_len]; omega
  have hold : ∀ j, j < 128 → cur[i * 128 + j]? = some (.int .u8 ((xs[i].getD j 0 : Nat) : Int)) := fun j hj => by
    have hl := h.lies elS.len (List.getElem?_eq_getElem hi)
    have := hl j (by simp [enS_len]; exact hj)
    have hj' : i * 128 + j < cur.size := by omega
    have hc := cell_of (o := i * 128 + j) hb (Array.getElem?_eq_getElem hj')
    rw [this] at hc
    rw [Array.getElem?_eq_getElem hj']
    rw [← hc]
    have h5 := enS_at xs[i] hj
    rw [List.getElem?_eq_getElem (by rw [enS_len]; exact hj)] at h5
    simpa using h5
  have hr := fun ty => run_copy_row (P := Tryz.prog) w 53 53 ty 5 r (i * 128) m c ⟨b, 1, none⟩ 128 128 cur 115 ((enS q).take m) Tryz.underlying53 size8 hb (by rw [hcl]; exact (Nat.min_eq_right hm).symm) (fun j v hv => by
    have hj := (List.getElem?_eq_some_iff.1 hv).1
    rw [hcl] at hj
    rw [List.getElem?_take_of_lt hj] at hv
    have := hl j (by simp [enS_len]; omega)
    rw [addr_add]
    rw [List.getElem?_eq_getElem (by rw [enS_len]; omega)] at hv
    rw [this]
    simpa using hv) (by rw [hcl]; omega) (fun u hu => enS_one q u (List.mem_of_mem_take hu))
  rw [hcl] at hr
  refine ⟨w.setRow r (cur.toList.take (i * 128) ++ (enS q).take m ++ cur.toList.drop (i * 128 + m)).toArray, fun ρ dst ty pos after g x y hx hy => ?_, ?_, setRow_mod r _ w⟩
  · simp only [execOp, resolve, invoke, builtin, Sem.run_bind, Sem.run_pure, Result.andThen_ok, List.map_toArray, List.map_cons, List.map_nil, hx, hy, hr, goInt]
  · have hset := LOut.setA elS.len h (i := i) hi (tornB m q xs[i])
    have e : (cur.toList.take (i * 128) ++ (enS q).take m ++ cur.toList.drop (i * 128 + m)).toArray = setMany cur (i * 128) (enS (tornB m q xs[i])) := by
      apply Array.ext_getElem?
      intro j
      by_cases hj : j < cur.size
      · rw [setMany_get _ _ _ _ hj, enS_len]
        simp only [List.getElem?_toArray]
        by_cases c1 : j < i * 128
        · rw [if_neg (by omega), List.append_assoc, List.getElem?_append_left (by simp; omega), List.getElem?_take_of_lt c1]
          simp
        · by_cases c2 : j < i * 128 + m
          · rw [if_pos (by omega), List.getElem?_append_left (by simp [enS_len]; omega), List.getElem?_append_right (by simp; omega), List.length_take, Array.length_toList, Nat.min_eq_left (by omega), List.getElem?_take_of_lt (by omega)]
            rw [enS_at _ (by omega), enS_at _ (by omega), tornB_getD hm hq.1 hs.1 (by omega), if_pos (by omega)]
          · rw [List.getElem?_append_right (by simp [enS_len]; omega)]
            rw [List.getElem?_drop]
            have e : i * 128 + m + (j - (List.take (i * 128) cur.toList ++ List.take m (enS q)).length) = j := by
              simp [enS_len]; omega
            rw [e]
            by_cases c3 : j < i * 128 + 128
            · rw [if_pos (by omega), enS_at _ (by omega), tornB_getD hm hq.1 hs.1 (by omega), if_neg (by omega)]
              have := hold (j - i * 128) (by omega)
              rw [show i * 128 + (j - i * 128) = j by omega] at this
              simpa using this
            · rw [if_neg (by omega)]
              simp
      · rw [Array.getElem?_eq_none (xs := setMany _ _ _) (by rw [setMany_size]; omega), Array.getElem?_eq_none (by simp [enS_len]; omega)]
    refine hset.kept (by rw [size_setCells]; simp [World.setRow]) fun k hk => ?_
    cases hk
    have h8 := heap_setCells_at (enS (tornB m q xs[i])) (i * 128) w cur hb
    have h9 := setRow_heap w r _ (cur.toList.take (i * 128) ++ (enS q).take m ++ cur.toList.drop (i * 128 + m)).toArray _ _ hb
    rw [e] at h9 ⊢
    exact h9.trans h8.symm
end Go.Proofs.YtbkblhoagfonjaaGreat

/- The disk: Crash, walked. -/
namespace Go.Proofs.YtbkblhoagfonjaaGreat
open Go.RowKit Go.Tn Go.Tn.Bt Go.Tn.Lp Go.Tn.Dk
theorem LSl.modE {α : Type} {en : α → List Value} {k : Nat} {w w' : World} {v : Value} {xs : List α} {S : Nat → Prop} (h : LSl en k w v xs) (hm : Mod S w w') (hr : 0 < xs.length → ∀ r, v.ownBlock = some r → ¬ S r) : LSl en k w' v xs := by
  by_cases h0 : 0 < xs.length
  · exact h.mod hm (hr h0)
  · obtain ⟨ao, cap, rfl, h1, h2, -⟩ := h
    exact ⟨ao, cap, rfl, h1, h2, fun h => absurd h h0⟩
set_option maxRecDepth 20000 in
set_option maxHeartbeats 4000000 in
theorem dcrash_any {w : World} {F : Nat → Prop} {p : Nat} {d : Dsk} (h : DAt w F p d) (v : Value) (ks : List Int) (hv : LSl enI 1 w v ks) (hvF : 0 < ks.length → ∀ r, v.ownBlock = some r → ¬ F r) (torn : Int) :
    Calls Tryz.prog 19 #[.pointer (some ⟨p, 0, none⟩), v, .int .i64 torn] w fun e w' => e = .returned (.tuple #[]) ∧ DAt w' F p (d.crash ks torn) ∧ Mod F w w' := by
  have hsz := size_any h
  have hlo := h.ok.lo
  have hhi := h.ok.hi
  have hsm := h.ok.small
  have HOK := Lib.hid (h.ok.crash ks torn)
  have HSEC := Lib.hid h.ok.sec
  have HQQ := Lib.hid h.ok.que
  have HLF := Lib.hid h.lt
  have hne : ((d.L.length : Int) == 0) = false := beq_eq_false_iff_ne.2 (by omega)
  obtain ⟨r, qv, h1, h2, h3, h4, h5, h6, h7⟩ := h.ex
  have HFP := Lib.hid h6
  have HFR := Lib.hid h7
  obtain ⟨qa, qc, rfl, hq1, hq2, hq3⟩ := h3.sl elQ.len
  unfold maxLen at hq2
  have c1 := cell_of (o := 1) h1 rfl
  have hqr : ¬ (Value.slice qa d.Q.length qc).ownBlock = some r := fun e => (h5 r e).2.1 rfl
  have hpl := h.lt p h6
  have hvr : 0 < ks.length → ∀ k, v.ownBlock = some k → ¬ k = r := fun h0 k hk e => hvF h0 k hk (e ▸ h7)
  have H1 := Lib.hid h1
  have H2 := Lib.hid h2
  have H5 := Lib.hid h5
  have HV := Lib.hid hv
  have HVR := Lib.hid hvr
  have HQ3 := Lib.hid hq3
  have hQ63 : (d.Q.length : Int) ≤ 1000000000 := by omega
  have hL63 : (d.L.length : Int) ≤ 4096 := by omega
  clear h1 h2 h3 h5 hq3 h hv hvF hvr h6 h7
  go_enter Tryz.func19, Tryz.ntmps19
  go_wp2_with (first
    | (go_at_call 34; refine hsz.mono ?_; rintro e w2 ⟨rfl, hw2⟩; obtain rfl := hw2.symm; clear hw2)
    | fail)
  go_loopw [16] (fun iv wi => ∃ k : Nat, k ≤ d.Q.length ∧ iv = .int .i64 k ∧ LOut enS 128 115 0 wi (.slice (some ⟨r, 0, none⟩) d.L.length d.L.length) (crashL d.Q.length ks torn 0 (d.Q.take k) d.L) ∧ Mod (fun b => b = r) w wi) (fun iv _ => d.Q.length - (intOf iv).toNat)
  case atStart => exact ⟨0, Nat.zero_le _, rfl, H2.out, Mod.refl _ _⟩
  case round =>
    obtain ⟨k, hk, rfl, hO, hm⟩ := hrel
    by_cases hkl : k < d.Q.length
    · have hkl' : (k : Int) < (d.Q.length : Int) := by omega
      obtain ⟨⟨qi, qs⟩, hq⟩ : ∃ q, d.Q[k]? = some q := ⟨_, List.getElem?_eq_getElem hkl⟩
      have hqi : qi < d.L.length := (HQQ.out _ (List.mem_of_getElem? hq)).1
      have hqs : secB qs := (HQQ.out _ (List.mem_of_getElem? hq)).2
      obtain ⟨gq, go, rfl, hgl, hcq⟩ := HQ3.out (by omega)
      have hgr : ¬ gq = r := fun e => hqr (by rw [e]; rfl)
      have hlq := lies_mod (S := fun b => b = r) (hcq k _ hq) hm hgr
      have hlt2 := crashL_take d.Q.length ks torn d.Q d.L k _ hq
      have hb2 : Below wr.heap.size wr (wr.alloc (.cells (enQ (qi, qs)).toArray 117)) := (Below.refl _ _).alloc (Nat.le_refl _) _
      have hY : (wr.alloc (.cells (enQ (qi, qs)).toArray 117)).heap[wr.heap.size]? = some (.cells (enQ (qi, qs)).toArray 117 (0, 0)) := heap_alloc_at
      have hq0 := cell_of (o := 0) (v := .int .i64 qi) hY rfl
      have hql : Lies (wr.alloc (.cells (enQ (qi, qs)).toArray 117)) wr.heap.size 1 (enS qs).toArray := fun j hj => by
        refine cell_of hY ?_
        rw [List.getElem?_toArray, Nat.add_comm, enQ, List.getElem?_cons_succ]
        simp at hj ⊢
      have hp : (wr.alloc (.cells (enQ (qi, qs)).toArray 117)).heap[p]? = _ := (heap_alloc_lt (Nat.lt_of_lt_of_le hpl hm.size)).trans ((hm.block p hpl (fun e => h4 e.symm)).trans H1.out)
      have c0 := cell_of (o := 0) hp rfl
      have hO2 := hO.below hb2
      have hm2 : Mod (fun b => b = r) w (wr.alloc (.cells (enQ (qi, qs)).toArray 117)) := hm.alloc _
      have HLQ := Lib.hid hlq
      have HLT := Lib.hid hlt2
      have HO2 := Lib.hid hO2
      have HM2 := Lib.hid hm2
      have HP := Lib.hid hp
      have HWS : Hid (r < wr.heap.size) := Lib.hid (by have := hO.lt (r := r) rfl; exact this)
      clear hq hcq hlq hlt2 hY hp hO hm hO2 hm2 hb2
      go_upto_region 4 with (first
        | ((with_reducible refine wpList_loadA (aggQ (qi, qs)).toAggT HLQ.out ?_ ?_); rfl; go_frame)
        | ((with_reducible refine wpList_storeA_new (aggQ (qi, qs)).toAggT (zcQ (qi, qs)) (all_one (enQ_one (qi, qs))) ?_ ?_ ?_); rfl; rfl; go_frame)
        | fail)
      generalize wr.alloc (.cells (enQ (qi, qs)).toArray 117) = w3 at *
      have hS : w3.drew.cell? ⟨p, 0, none⟩ = some (.slice (some ⟨r, 0, none⟩) d.L.length d.L.length) ∧ w3.drew.cell? ⟨wr.heap.size, 0, none⟩ = some (.int .i64 qi) := ⟨c0, hq0⟩
      refine wp_region_x (fun w' => w'.cell? ⟨p, 0, none⟩ = some (.slice (some ⟨r, 0, none⟩) d.L.length d.L.length) ∧ w'.cell? ⟨wr.heap.size, 0, none⟩ = some (.int .i64 qi)) [(0, 1), (1, 1), (2, 1), (3, 0), (4, 1), (5, 0), (6, 1), (7, 1), (8, 1), (9, 1), (10, 1), (13, 1), (14, 1), (11, 2), (12, 1), (15, 2)] (by kernel_rfl) (by kernel_rfl) (by intro d v c a w h; cases d <;> exact h) ?_
      have hqi0 : (0 : Int) ≤ (qi : Int) := by omega
      have hqi' : (qi : Int) < (d.L.length : Int) := by omega
      iterate 3 (refine x_take rfl (fun K hK => ?_); go_simp; refine hK _ ?_; clear hK K)
      refine x_read rfl hS (fun w' h => exec_load1 ⟨⟨_, Tryz.underlying64, rfl⟩⟩ rfl h.1) ?_
      iterate 1 (refine x_take rfl (fun K hK => ?_); go_simp; refine hK _ ?_; clear hK K)
      refine x_read rfl hS (fun w' h => exec_load1 ⟨⟨_, Tryz.underlying3, rfl⟩⟩ rfl h.2) ?_
      iterate 7 (refine x_take rfl (fun K hK => ?_); go_simp; refine hK _ ?_; clear hK K)
      refine x_show' rfl (fun K hK => ?_)
      go_simp
      refine (kept_any (w := w3.drew) HP.out hsm k hkl v ks (LSl.modE HV.out HM2.out.drew HVR.out) torn).mono ?_
      rintro e w4 ⟨rfl, hw4⟩
      obtain rfl := hw4.symm
      refine hK _ _ hS ?_
      clear hK K hw4
      have hkn := keptN_le d.Q.length k ks torn
      have hkn' : ((keptN d.Q.length k ks torn : Nat) : Int) ≤ 128 := by omega
      obtain ⟨w5, hcp, hO5, hm5⟩ := copy_torn (m := keptN d.Q.length k ks torn) (c := 128) (HO2.out.below (Below.refl _ _).drew) (i := qi) (by rw [crashL_len]; exact hqi) (crashL_sec _ _ _ (fun q hq => HQQ.out q (List.mem_of_mem_take hq)) rfl HSEC.out) hkn hqs hql (by have := HWS.out; omega)
      have HS5 := Lib.hid (And.intro (cell_mod (S := fun b => b = r) hS.1 hm5 (fun e => h4 e.symm)) (cell_mod (S := fun b => b = r) hS.2 hm5 (fun e => by have := HWS.out; omega)))
      rw [← HLT.out] at hO5
      have HO5 := Lib.hid hO5
      have HM5 : Hid (Mod (fun b => b = r) w w5) := Lib.hid (HM2.out.drew.trans hm5 (fun _ h => h) (fun _ _ h => h))
      iterate 1 (refine x_take rfl (fun K hK => ?_); go_simp; refine hK _ ?_; clear hK K)
      refine x_show rfl (hcp _ _ _ _ _ _ _ _ rfl rfl) HS5.out ?_
      refine x_nil ?_
      clear hcp hO5 hm5 hS c0 hq0 hql
      go_wp2
      go_roundw
      case rel => exact ⟨k + 1, by omega, by go_num, HO5.out, HM5.out⟩
      case measure => simp [intOf]; omega
    · obtain rfl : k = d.Q.length := by omega
      rw [List.take_length] at hO
      have hp : wr.heap[p]? = _ := (hm.block p hpl (fun e => h4 e.symm)).trans H1.out
      have hc1 := cell_of (o := 1) hp rfl
      have hc3 := cell_of (o := 3) hp rfl
      have hc4 := cell_of (o := 4) hp rfl
      have hf1 := free_of (o := 1) hp
      have hf3 := free_of (o := 3) hp
      have hf4 := free_of (o := 4) hp
      have hfin : DAt (((wr.setCell ⟨p, 1, none⟩ (.slice none 0 0)).setCell ⟨p, 3, none⟩ (.bool false)).setCell ⟨p, 4, none⟩ (.bool false)) F p (d.crash ks torn) ∧ Mod F w (((wr.setCell ⟨p, 1, none⟩ (.slice none 0 0)).setCell ⟨p, 3, none⟩ (.bool false)).setCell ⟨p, 4, none⟩ (.bool false)) := by
        have hm4 : Mod (fun b => b = p) wr (((wr.setCell ⟨p, 1, none⟩ (.slice none 0 0)).setCell ⟨p, 3, none⟩ (.bool false)).setCell ⟨p, 4, none⟩ (.bool false)) := Mod.setCell (S := fun b => b = p) (Mod.setCell (S := fun b => b = p) (Mod.setCell (S := fun b => b = p) (Mod.refl _ _) _ _ fun _ => rfl) _ _ fun _ => rfl) _ _ fun _ => rfl
        have hh := heap_setCell_at (o := 4) (v := .bool false) (heap_setCell_at (o := 3) (v := .bool false) (heap_setCell_at (o := 1) (v := .slice none 0 0) hp))
        refine ⟨⟨HOK.out, ⟨r, .slice none 0 0, ?_, ?_, LOut.nil (Nat.zero_le _), h4, (fun k hk => by cases hk), HFP.out, HFR.out⟩, ?_⟩, hm.trans (T := F) hm4 (fun x hx => by rw [hx]; exact HFR.out) (fun x _ hx => by rw [hx]; exact HFP.out)⟩
        · rw [crash_L]
          exact hh
        · rw [crash_L]
          exact hO.kept hm4.size fun k hk => by cases hk; exact hm4.block r (hO.lt rfl) h4
        · intro b hb
          exact Nat.lt_of_lt_of_le (Nat.lt_of_lt_of_le (HLF.out b hb) hm.size) hm4.size
      have HFIN := Lib.hid hfin
      clear hO hm hp hfin
      go_wp2
      (try simp only [Exit.inBlock, Exit.then]); refine bodyPost_end (results_none rfl _ _ _) rfl ?_
      exact ⟨rfl, HFIN.out.1, HFIN.out.2⟩
end Go.Proofs.YtbkblhoagfonjaaGreat

/- The calls that a law is handed. -/
namespace Go.Proofs.YtbkblhoagfonjaaGreat
open Go.ChangeShapes Go.WideShapes Go.ChangeAt Go.RowKit Go.Tn Go.Joins Go.Tn.Bt Go.Tn.Lp Go.Tn.Dk
/-- A call: what, a number, puts, odd, what is kept. -/
structure DoP where
  kind : Int
  num : Int
  puts : List Pt
  odd : Bool
  keep : List Int
def enDo (x : DoP × Sv × Sv) : List Value := [.int .i64 x.1.kind, .int .i64 x.1.num, sv x.2.1, .bool x.1.odd, sv x.2.2]
def DosI (w : World) (v : Value) (ds : List DoP) : Prop := ∃ xs : List (DoP × Sv × Sv), xs.map (·.1) = ds ∧ LSl enDo 5 w v xs ∧ ∀ x ∈ xs, PtsI w (sv x.2.1) x.1.puts ∧ (∀ p ∈ x.1.puts, ∀ b ∈ p.2, b < 256) ∧ LSl enI 1 w (sv x.2.2) x.1.keep ∧ x.1.num < 9223372036854775808
theorem DosI.below {w w' : World} {v : Value} {ds : List DoP} (h : DosI w v ds) (hb : Below w.heap.size w w') : DosI w' v ds := by
  obtain ⟨xs, h1, h2, h3⟩ := h
  exact ⟨xs, h1, h2.below hb, fun x hx => ⟨(h3 x hx).1.below hb, (h3 x hx).2.1, (h3 x hx).2.2.1.below hb, (h3 x hx).2.2.2⟩⟩
theorem wf_i64_hi {n : Int} (h : (Lit.int .i64 n).wf = true) : n < 9223372036854775808 := by
  simp [Lit.wf, IntKind.bits, IntKind.signed] at h
  omega
theorem flatDo : flat Tryz.prog 4 41 = some [3, 3, 37, 4, 39] := by kernel_rfl
theorem cellsDo : Tryz.prog.cellsOf 41 = [3, 3, 37, 4, 39].length := by kernel_rfl
theorem flatI : flat Tryz.prog 1 3 = some [3] := by kernel_rfl
theorem cellsI : Tryz.prog.cellsOf 3 = [3].length := by kernel_rfl
section
variable {H : Type} {enc : TypeId × Value → H} {w : World} {base : Nat} {spare : Nat → Bool} {held : Bool}
theorem ints_of {ao : Option Addr} {n cap : Nat} {x : DataW H} {ps : List MemPlace} (h : DataW.Trod enc Tryz.prog w base spare held 39 (.slice ao n cap) x ps) : ∃ bs : List Int, LSl enI 1 w (.slice ao n cap) bs := by
  rcases open_flat Tryz.underlying39 flatI cellsI (by decide) h ⟨_, _, _, rfl⟩ with hv | ⟨b, off, spot, len, cap', hv, hl, hm, hin, hc⟩
  · cases hv
    exact ⟨[], LSl.nil w⟩
  · cases hv
    have hex : ∀ i : Nat, ∃ z : Int, i < n → w.cell? ⟨b, off + i, none⟩ = some (.int .i64 z) := fun i => by
      by_cases hi : i < n
      · obtain ⟨c, h1, h2⟩ := hc i hi 0 3 rfl
        obtain ⟨z, rfl, _⟩ := h2.int Tryz.underlying3
        exact ⟨z, fun _ => by simpa using h1⟩
      · exact ⟨0, fun h => absurd h hi⟩
    have hlen : ((List.range n).map fun i => Classical.choose (hex i)).length = n := by simp
    refine ⟨(List.range n).map fun i => Classical.choose (hex i), _, cap, by rw [hlen], by rw [hlen]; exact hl, hm, fun h0 => ?_⟩
    rw [hlen] at h0
    refine ⟨b, off, by rw [(hin h0).1], (hin h0).2, fun i y hi => ?_⟩
    have hlt : i < n := by
      have := (List.getElem?_eq_some_iff.1 hi).1
      rwa [hlen] at this
    have hy : Classical.choose (hex i) = y := by simpa [hlt] using hi
    rw [← hy]
    intro j hj
    have hj0 : j = 0 := by simpa using hj
    subst hj0
    have := Classical.choose_spec (hex i) hlt
    simpa using this
theorem CellOk.slice {t e : TypeId} (ht : Tryz.prog.underlying t = some (.slice e)) {c : Value} (h : CellOk enc Tryz.prog w base spare held t c) : ∃ a n cap, c = .slice a n cap ∧ ∃ x ps, DataW.Trod enc Tryz.prog w base spare held t (.slice a n cap) x ps := by
  obtain ⟨m, ⟨x, ps⟩, h⟩ := h
  have hsh : ∃ a n cap, c = .slice a n cap := by
    rcases Go.Deep.open_slice ht h with ⟨hcs, _⟩ | ⟨⟨b, off, spot⟩, len, cap, m, n, D, Pl, hcs, _⟩
    · exact ⟨_, _, _, by simpa using hcs⟩
    · exact ⟨_, _, _, by simpa using hcs⟩
  obtain ⟨a, n, cap, rfl⟩ := hsh
  exact ⟨a, n, cap, rfl, x, ps, m, h⟩
theorem dos_of {ao : Option Addr} {n cap : Nat} {x : DataW H} {ps : List MemPlace} (h : DataW.Trod enc Tryz.prog w base spare held 22 (.slice ao n cap) x ps) : ∃ ds : List DoP, DosI w (.slice ao n cap) ds := by
  rcases open_flat Tryz.underlying22 flatDo cellsDo (by decide) h ⟨_, _, _, rfl⟩ with hv | ⟨b, off, spot, len, cap', hv, hl, hm, hin, hc⟩
  · cases hv
    exact ⟨[], [], rfl, LSl.nil w, fun x hx => by cases hx⟩
  · cases hv
    have hex : ∀ i : Nat, ∃ y : DoP × Sv × Sv, i < n → Lies w b (off + i * 5) (enDo y).toArray ∧ PtsI w (sv y.2.1) y.1.puts ∧ (∀ p ∈ y.1.puts, ∀ b ∈ p.2, b < 256) ∧ LSl enI 1 w (sv y.2.2) y.1.keep ∧ y.1.num < 9223372036854775808 := fun i => by
      by_cases hi : i < n
      · obtain ⟨c0, h0, k0⟩ := hc i hi 0 3 rfl
        obtain ⟨z0, rfl, _⟩ := k0.int Tryz.underlying3
        obtain ⟨c1, h1, k1⟩ := hc i hi 1 3 rfl
        obtain ⟨z1, rfl, hz1⟩ := k1.int Tryz.underlying3
        obtain ⟨c2, h2, k2⟩ := hc i hi 2 37 rfl
        obtain ⟨a2, n2, cp2, rfl, x2, p2, t2⟩ := CellOk.slice Tryz.underlying37 k2
        obtain ⟨qs, hq1, hq2⟩ := puts_of t2
        obtain ⟨c3, h3, k3⟩ := hc i hi 3 4 rfl
        obtain ⟨z3, rfl⟩ := k3.bool Tryz.underlying4
        obtain ⟨c4, h4, k4⟩ := hc i hi 4 39 rfl
        obtain ⟨a4, n4, cp4, rfl, x4, p4, t4⟩ := CellOk.slice Tryz.underlying39 k4
        obtain ⟨zs, hz⟩ := ints_of t4
        refine ⟨(⟨z0, z1, qs, z3, zs⟩, (a2, n2, cp2), (a4, n4, cp4)), fun _ => ⟨fun j hj => ?_, hq1, hq2, hz, wf_i64_hi hz1⟩⟩
        have hj5 : j < 5 := by simpa [enDo] using hj
        match j, hj5 with
        | 0, _ => exact h0
        | 1, _ => exact h1
        | 2, _ => exact h2
        | 3, _ => exact h3
        | 4, _ => exact h4
      · exact ⟨(⟨0, 0, [], false, []⟩, (none, 0, 0), (none, 0, 0)), fun h => absurd h hi⟩
    have hlen : ((List.range n).map fun i => Classical.choose (hex i)).length = n := by simp
    have hget : ∀ i y, ((List.range n).map fun i => Classical.choose (hex i))[i]? = some y → i < n ∧ Classical.choose (hex i) = y := fun i y hi => by
      have hlt : i < n := by
        have := (List.getElem?_eq_some_iff.1 hi).1
        rwa [hlen] at this
      exact ⟨hlt, by simpa [hlt] using hi⟩
    refine ⟨((List.range n).map fun i => Classical.choose (hex i)).map (·.1), (List.range n).map fun i => Classical.choose (hex i), rfl, ⟨_, cap, by rw [hlen], by rw [hlen]; exact hl, hm, fun h0 => ?_⟩, fun y hy => ?_⟩
    · rw [hlen] at h0
      refine ⟨b, off, by rw [(hin h0).1], (hin h0).2, fun i y hi => ?_⟩
      obtain ⟨hlt, hy⟩ := hget i y hi
      rw [← hy]
      exact (Classical.choose_spec (hex i) hlt).1
    · obtain ⟨i, hi⟩ := List.mem_iff_getElem?.1 hy
      obtain ⟨hlt, hy⟩ := hget i y hi
      rw [← hy]
      exact (Classical.choose_spec (hex i) hlt).2
end
end Go.Proofs.YtbkblhoagfonjaaGreat

/- The disk's Waits, where nothing waits; puts apart from what is made later; plain facts of Write. -/
namespace Go.Proofs.YtbkblhoagfonjaaGreat
open Go.RowKit Go.Tn Go.Tn.Bt Go.Tn.Lp Go.Tn.Dk
theorem PtsO.ahead {B : Nat} {w : World} {F : Nat → Prop} {v : Value} {ps : List Pt} (h : PtsO B w v ps) (hF : ∀ b, F b → w.heap.size ≤ b) : PtsA w F v ps := by
  obtain ⟨xs, h1, h2, h3⟩ := h
  refine ⟨xs, h1, h2.sl elPt.len, fun r hr e => ?_, fun x hx => ⟨(h3 x hx).1, fun r hr e => ?_⟩⟩
  · have := h2.lt hr
    have := hF r e
    omega
  · have := ((h3 x hx).2 r hr).2.1
    have := hF r e
    omega
theorem few_len (ps : List Pt) (n : Nat) (odd : Bool) : (fewB ps n odd).length ≤ n := by
  unfold fewB
  rw [List.length_map, List.length_take]
  omega
theorem rsecB_lt {bs : List Nat} (h : ∀ x ∈ bs, x < 256) : ∀ x ∈ rsecB bs, x < 256 := fun x hx => by
  unfold rsecB at hx
  rcases List.mem_append.1 hx with hx | hx
  · exact h x (List.mem_of_mem_take hx)
  · have := List.eq_of_mem_replicate hx
    omega
theorem few_lt {ps : List Pt} (h : ∀ p ∈ ps, ∀ x ∈ p.2, x < 256) (n : Nat) (odd : Bool) : ∀ p ∈ fewB ps n odd, ∀ x ∈ p.2, x < 256 := fun p hp x hx => by
  obtain ⟨q, hq, rfl⟩ := List.mem_map.1 hp
  have hq := h q (List.mem_of_mem_take hq)
  unfold fewP at hx
  simp only at hx
  split at hx
  · exact hq x (List.mem_of_mem_take hx)
  · exact rsecB_lt hq x hx
theorem newD_calm (n : Nat) : Dsk.calm (newD n) := ⟨rfl, rfl⟩
theorem trans_mono {ps : List Pt} {a b : Nat} (h : transB ps a = true) (hab : a ≤ b) : transB ps b = true := by
  obtain ⟨h1, h2, h3, h4⟩ := (transB_iff ps a).1 h
  exact (transB_iff ps b).2 ⟨h1, h2, fun p hp => ⟨(h3 p hp).1, by have := (h3 p hp).2.1; omega, (h3 p hp).2.2⟩, h4⟩
end Go.Proofs.YtbkblhoagfonjaaGreat
