/- Split of a path into its names, by the document. -/
import Derived.Test.YtapmjchlkaicpaaDoorWc
import Derived.Test.YtapmjchlkaicpaaDoorOps
import Derived.Maps.RangeWalk
namespace Go.Proofs.YtapmjchlkaicpaaDoor
open Go.RowKit Go.Tn Go.Tn.Names

theorem info_str : ∃ i, Tryd.prog.info? 9 = some i ∧ i.zero = some (.string ByteArray.empty) ∧ i.size = 1 ∧ i.bytes = 16 := by
  have h : (match Tryd.prog.info? 9 with | some i => (match i.zero with | some (.string b) => b.size == 0 | _ => false) && i.size == 1 && i.bytes == 16 | none => false) = true := by kernel_rfl
  cases hq : Tryd.prog.info? 9 with
  | none => rw [hq] at h; cases h
  | some i =>
    rw [hq] at h
    simp only [Bool.and_eq_true, beq_iff_eq] at h
    refine ⟨i, rfl, ?_, h.1.2, h.2⟩
    have h1 := h.1.1
    split at h1
    · rename_i b hb
      have : b = ByteArray.empty := by
        have h0 : b.size = 0 := by simpa using h1
        cases b with
        | mk d =>
          have : d = #[] := Array.eq_empty_of_size_eq_zero h0
          rw [this]; rfl
      rw [hb, this]
    · cases h1

/-- A list of texts of one's own. -/
structure Outs (B : Nat) (w : World) (v : Value) (xs : List ByteArray) : Prop where
  own : Own1 w 9 v (xs.map Value.string)
  lo : ∀ r, v.ownBlock = some r → B ≤ r
  le : B ≤ w.heap.size

theorem Outs.nil {B : Nat} {w : World} (h : B ≤ w.heap.size) : Outs B w (.slice none 0 0) [] :=
  ⟨⟨rfl, .inl ⟨rfl, rfl⟩⟩, (fun r hr => by cases hr), h⟩
theorem Outs.below {B : Nat} {w w' : World} {v : Value} {xs : List ByteArray} (h : Outs B w v xs) (hb : Below w.heap.size w w') : Outs B w' v xs :=
  ⟨h.own.kept fun r hr => by
    rcases h.own.form with ⟨rfl, _⟩ | ⟨g, cap, cur, rfl, _, _, hg, _⟩
    · cases hr
    · cases hr
      exact hb.block g (lt_of_block hg), h.lo, Nat.le_trans h.le hb.size⟩
theorem Outs.sl {B : Nat} {w : World} {v : Value} {xs : List ByteArray} (h : Outs B w v xs) : TextSl w v xs := by
  rcases h.own.form with ⟨rfl, h0⟩ | ⟨g, cap, cur, rfl, hle, hcm, hg, hcs, hcur⟩
  · have : xs = [] := by simpa using h0
    subst this
    exact nil_sl w
  · rw [List.length_map] at hle ⊢
    exact ⟨_, _, rfl, hle, hcm, fun _ => ⟨g, 0, rfl, lt_of_block hg, fun i x hi => by
      rw [Nat.zero_add]
      exact cell_of hg (hcur i _ (by simp [hi]))⟩⟩

theorem wpList_append {ops : Array Oper} {rest : List Oper} {a : Act} {Q : Exit → Act → World → Prop} {B : Nat} {w : World} {v : Value} {xs : List ByteArray} (h : Outs B w v xs) (x : ByteArray) (hsz : xs.length ≤ 1000) {d : Nat} {ty : TypeId} {pos : String} {after : Array Edge} {s y : Operand}
    (hs : a.eval s = v) (hy : a.eval y = .slice (some ⟨w.heap.size, 0, none⟩) 1 1)
    (hk : ∀ v' w', Outs B w' v' (xs ++ [x]) → Below B w w' → wpList Tryd.prog ops Q rest (a.put (some d) v') w') :
    wpList Tryd.prog ops Q ({ dst := some d, op := .call { callee := .builtin .append, args := #[s, y], argTypes := #[23, 23] }, type := ty, pos := pos, after := after, guard := none } :: rest) a (w.alloc (.cells #[.string x] 9)) := by
  obtain ⟨i, hi, hz0, hz1, hz2⟩ := info_str
  have hal : Below B w (w.alloc (.cells #[.string x] 9)) := (Below.refl _ _).alloc h.le _
  have hO := h.below (w' := w.alloc (.cells #[.string x] 9)) ((Below.refl _ _).alloc (Nat.le_refl _) _)
  have hu : Own1 (w.alloc (.cells #[.string x] 9)) 9 (.slice (some ⟨w.heap.size, 0, none⟩) 1 1) [.string x] := Own1.lit (xs := #[.string x]) (by unfold maxLen; simp)
  obtain ⟨v', w', hr, ho, hg, hl⟩ := exec_append1 (P := Tryd.prog) (w := w.alloc (.cells #[.string x] 9)) (ρ := a.eval) (dst := some d) (ty := ty) (pos := pos) (after := after) (gd := none) Tryd.underlying23 hi hz0 hz1 hz2 rfl hO.own hu (by simp [Value.oneCell']) (by unfold maxLen; simp; omega) (by simp; omega) hs hy
  refine wpList_exec rfl hr (hk v' w' ⟨?_, ?_, Nat.le_trans hO.le hg.size⟩ (hal.grown hg hO.le hO.lo))
  · rw [List.map_append]; exact ho
  · intro r hr
    rcases hl with hl | hl
    · exact hO.lo r (hl ▸ hr)
    · rw [hl] at hr
      cases hr
      exact hO.le

/-- What is still to come behind k bytes. -/
def todo (s : ByteArray) (cur : List UInt8) (k : Nat) : List (List UInt8) := if k ≤ s.size then pre cur (parts ((bs s).drop k)) else []
theorem drop_at (s : ByteArray) {k : Nat} (h : k < s.size) : (bs s).drop k = s[k] :: (bs s).drop (k + 1) := by
  have hl := bs_len s
  rw [List.drop_eq_getElem_cons (by omega)]
  rfl
theorem todo_byte (s : ByteArray) (cur : List UInt8) {k : Nat} (h : k < s.size) (hc : s[k] ≠ 47) : todo s cur k = todo s (cur ++ [s[k]]) (k + 1) := by
  unfold todo
  rw [if_pos (by omega), if_pos (by omega), drop_at s h, pre_byte _ _ hc]
theorem todo_slash (s : ByteArray) (cur : List UInt8) {k : Nat} (h : k < s.size) (hc : s[k] = 47) : todo s cur k = cur :: todo s [] (k + 1) := by
  unfold todo
  rw [if_pos (by omega), if_pos (by omega), drop_at s h, hc, pre_slash, pre_nil (parts_ne _)]
theorem todo_end (s : ByteArray) (cur : List UInt8) : todo s cur s.size = cur :: todo s [] (s.size + 1) := by
  unfold todo
  have hl := bs_len s
  rw [if_pos (Nat.le_refl _), if_neg (by omega), List.drop_of_length_le (by omega), pre_end]

/-- What a path is, by what lies behind its first byte. -/
def pathOf (L : List (List UInt8)) : Option (List (List UInt8)) := if L.length ≤ 8 ∧ L.all isName = true then some L else none
theorem pathOf_bad {L M : List (List UInt8)} {x : List UInt8} (h : isName x = false) : pathOf (L ++ x :: M) = none := by
  unfold pathOf
  rw [if_neg]
  intro h2
  have := List.all_eq_true.1 h2.2 x (by simp)
  rw [h] at this; cases this
theorem pathOf_long {L M : List (List UInt8)} {x : List UInt8} (h : L.length = 8) : pathOf (L ++ x :: M) = none := by
  unfold pathOf
  rw [if_neg]
  intro h2
  have := h2.1
  simp at this
  omega

def rsplitOk (s : ByteArray) (ok : Bool) (xs : List ByteArray) : Prop := (splitP (bs s) = some (texts xs) ∧ ok = true) ∨ (splitP (bs s) = none ∧ xs = [] ∧ ok = false)

/-- Where the loop stands. -/
structure At (s : ByteArray) (k : Nat) (cur : ByteArray) (outs : List ByteArray) : Prop where
  k1 : 1 ≤ k
  k2 : k ≤ s.size + 1
  cu : cur.size ≤ k
  le : outs.length ≤ 8
  all : (texts outs).all isName = true
  eq : parts ((bs s).drop 1) = texts outs ++ todo s (bs cur) k

set_option maxHeartbeats 4000000 in
set_option maxRecDepth 20000 in
theorem rSplit_any (w : World) (s : ByteArray) (hs : s.size ≤ 999) : Calls Tryd.prog 8 #[.string s] w
    fun e w' => (∃ v ok xs, e = .returned (.tuple #[v, .bool ok]) ∧ TextSl w' v xs ∧ rsplitOk s ok xs) ∧ Below w.heap.size w w' := by
  by_cases h0 : 0 < s.size
  · have h0' : (1 : Int) ≤ (s.size : Int) := by omega
    have hd := drop_at s h0
    rw [List.drop_zero] at hd
    by_cases h47 : s[0] = 47
    · have t0 : (((s[0].toNat : Nat) : Int) != 47) = false := by rw [h47]; rfl
      by_cases h1 : bs s = [47]
      · have t1 : (s.toList == [47]) = true := by rw [bs_eq, h1]; rfl
        have hO := Lib.hid (show rsplitOk s true [] from .inl ⟨by rw [h1]; rfl, rfl⟩)
        clear h1 h47 hd
        go_enter Tryd.func8, Tryd.ntmps8
        go_wp2
        go_ret2
        exact ⟨⟨_, _, _, rfl, nil_sl w, hO.out⟩, Below.refl _ _⟩
      · have t1 : (s.toList == [47]) = false := by rw [bs_eq]; simpa using h1
        have hSP : splitP (bs s) = pathOf (parts ((bs s).drop 1)) := by
          have e : bs s = 47 :: (bs s).drop 1 := by rw [← h47]; exact hd
          have hne : (bs s).drop 1 ≠ [] := fun e2 => h1 (by rw [e, e2])
          rw [e]
          simp only [splitP, List.drop_succ_cons, List.drop_zero, if_neg hne]
          rfl
        have hst : At s 1 ByteArray.empty [] := ⟨Nat.le_refl _, by omega, by simp, by simp, rfl, by
          unfold todo
          rw [if_pos (by omega), show bs ByteArray.empty = [] from rfl, pre_nil (parts_ne _)]
          rfl⟩
        have hSP' := Lib.hid hSP
        clear h1 h47 hd hSP
        go_enter Tryd.func8, Tryd.ntmps8
        go_wp2
        go_loopw [4, 5, 6] (fun v cv kv wr => ∃ k cur outs, kv = .int .i64 (k : Nat) ∧ cv = .string cur ∧ At s k cur outs ∧ Outs w.heap.size wr v outs ∧ Below w.heap.size w wr) (fun _ _ kv _ => s.size + 1 - (intOf kv).toNat)
        case atStart => exact ⟨1, ByteArray.empty, [], rfl, rfl, hst, Outs.nil (Nat.le_refl _), Below.refl _ _⟩
        case round =>
          clear hst
          obtain ⟨k, cur, outs, rfl, rfl, hA, hO, hb⟩ := hrel
          have hk1 := hA.k1
          have hk2 := hA.k2
          by_cases hle : k ≤ s.size
          · have hle' : (k : Int) ≤ (s.size : Int) := by omega
            by_cases hmid : ∃ h : k < s.size, s[k] ≠ 47
            · obtain ⟨hlt, hne⟩ := hmid
              have hlt' : (k : Int) < (s.size : Int) := by omega
              have t2 : (((s[k].toNat : Nat) : Int) != 47) = true := by
                rw [bne_iff_ne]
                intro e
                have : s[k].toNat = 47 := by omega
                exact hne (UInt8.toNat_inj.1 (this.trans rfl))
              have hN : At s (k + 1) (cur ++ s.extract k (k + 1)) outs := ⟨by omega, by omega, by
                  have := hA.cu
                  simp
                  omega, hA.le, hA.all, by
                  rw [hA.eq, todo_byte s _ hlt hne]
                  have e : bs (cur ++ s.extract k (k + 1)) = bs cur ++ [s[k]] := by
                    have e1 : bs (s.extract k (k + 1)) = [s[k]] := by
                      rw [show bs (s.extract k (k + 1)) = _ from Lib.extract_data s k (k + 1)]
                      have := drop_at s hlt
                      unfold bs at this
                      first
                        | (rw [this]; simp; done)
                        | (rw [List.drop_take, this]; simp; done)
                    have e2 : bs (cur ++ s.extract k (k + 1)) = bs cur ++ bs (s.extract k (k + 1)) := by simp [bs]
                    rw [e2, e1]
                  rw [e]⟩
              have HN := Lib.hid hN
              have hcu := hA.cu
              have hcat : cur.size + (s.extract k (k + 1)).size ≤ 9223372036854775807 := by simp; omega
              have hcat' : cur.size + (min (k + 1) s.size - k) ≤ 9223372036854775807 := by omega
              clear hN hA hne
              go_wp2
              exact ⟨⟨k + 1, _, outs, by go_num, rfl, HN.out, hO, hb⟩, by simp [intOf]; omega⟩
            · have hT : todo s (bs cur) k = bs cur :: todo s [] (k + 1) := by
                by_cases hlt : k < s.size
                · refine todo_slash s _ hlt ?_
                  by_cases e : s[k] = 47
                  · exact e
                  · exact absurd ⟨hlt, e⟩ hmid
                · obtain rfl : k = s.size := by omega
                  exact todo_end s _
              have hI := fun w => rIs_any w cur (by have := hA.cu; omega)
              have hQ := hA.eq
              rw [hT] at hQ
              cases hn : isName (bs cur) with
              | false =>
                have hR := Lib.hid (show rsplitOk s false [] from .inr ⟨by rw [hSP'.out, hQ, pathOf_bad hn], rfl, rfl⟩)
                rw [hn] at hI
                by_cases hlt : k < s.size
                case' pos =>
                  have hlt' : (k : Int) < (s.size : Int) := by omega
                  have t2 : (((s[k].toNat : Nat) : Int) != 47) = false := by
                    have : s[k] = 47 := by
                      by_cases e : s[k] = 47
                      · exact e
                      · exact absurd ⟨hlt, e⟩ hmid
                    rw [this]; rfl
                case' neg =>
                  have hlt' : (s.size : Int) ≤ (k : Int) := by omega
                all_goals
                  clear hmid hQ hT hA hn
                  go_wp2_with (go_at_call 10; refine (hI _).mono ?_; rintro e w2 ⟨rfl, hw2⟩; obtain rfl := hw2.symm; clear hw2)
                  go_ret2
                  exact ⟨⟨_, _, _, rfl, nil_sl _, hR.out⟩, hb⟩
              | true =>
                rw [hn] at hI
                by_cases h8 : outs.length = 8
                · have hR := Lib.hid (show rsplitOk s false [] from .inr ⟨by rw [hSP'.out, hQ, pathOf_long (by simpa using h8)], rfl, rfl⟩)
                  obtain ⟨ao, cap, rfl, _, _, _⟩ := hO.sl
                  have h8' : (outs.length : Int) = 8 := by omega
                  by_cases hlt : k < s.size
                  case' pos =>
                    have hlt' : (k : Int) < (s.size : Int) := by omega
                    have t2 : (((s[k].toNat : Nat) : Int) != 47) = false := by
                      have : s[k] = 47 := by
                        by_cases e : s[k] = 47
                        · exact e
                        · exact absurd ⟨hlt, e⟩ hmid
                      rw [this]; rfl
                  case' neg =>
                    have hlt' : (s.size : Int) ≤ (k : Int) := by omega
                  all_goals
                    clear hmid hQ hT hA hn
                    go_wp2_with (go_at_call 10; refine (hI _).mono ?_; rintro e w2 ⟨rfl, hw2⟩; obtain rfl := hw2.symm; clear hw2)
                    go_ret2
                    exact ⟨⟨_, _, _, rfl, nil_sl _, hR.out⟩, hb⟩
                · have hN : At s (k + 1) ByteArray.empty (outs ++ [cur]) := ⟨by omega, by omega, by simp, by
                    have := hA.le
                    simp; omega, by
                    have := hA.all
                    simp only [texts, List.map_append, List.all_append, this]
                    simp [hn], by
                    rw [hQ, show bs ByteArray.empty = [] from rfl]
                    simp [texts]⟩
                  have HN := Lib.hid hN
                  have hle8 := hA.le
                  obtain ⟨ao, cap, rfl, _, _, _⟩ := hO.sl
                  have h8' : ((outs.length : Int) == 8) = false := by simp; omega
                  by_cases hlt : k < s.size
                  case' pos =>
                    have hlt' : (k : Int) < (s.size : Int) := by omega
                    have t2 : (((s[k].toNat : Nat) : Int) != 47) = false := by
                      have : s[k] = 47 := by
                        by_cases e : s[k] = 47
                        · exact e
                        · exact absurd ⟨hlt, e⟩ hmid
                      rw [this]; rfl
                  case' neg =>
                    have hlt' : (s.size : Int) ≤ (k : Int) := by omega
                  all_goals
                    clear hmid hQ hT hA hn hN
                    go_wp2_with (first
                      | (go_at_call 10; refine (hI _).mono ?_; rintro e w2 ⟨rfl, hw2⟩; obtain rfl := hw2.symm; clear hw2)
                      | ((with_reducible refine wpList_append hO cur (by omega) ?_ ?_ ?_); rfl; rfl; (intro v2 w2 hO2 hb2); go_frame))
                    exact ⟨⟨k + 1, ByteArray.empty, outs ++ [cur], by go_num, rfl, HN.out, hO2, hb.trans hb2⟩, by simp [intOf]; omega⟩
          · have hR := Lib.hid (show rsplitOk s true outs from .inl ⟨by
              have hQ := hA.eq
              have hz : todo s (bs cur) k = [] := by unfold todo; rw [if_neg (by omega)]
              rw [hz, List.append_nil] at hQ
              rw [hSP'.out, hQ]
              unfold pathOf
              rw [if_pos ⟨by simpa using hA.le, hA.all⟩], rfl⟩)
            have hle' : (s.size : Int) < (k : Int) := by omega
            have hsl := hO.sl
            clear hA
            go_wp2
            go_ret2
            exact ⟨⟨_, _, _, rfl, hsl, hR.out⟩, hb⟩
    · have t0 : (((s[0].toNat : Nat) : Int) != 47) = true := by
        rw [bne_iff_ne]
        intro e
        have : s[0].toNat = 47 := by omega
        exact h47 (UInt8.toNat_inj.1 (this.trans rfl))
      have hR := Lib.hid (show rsplitOk s false [] from .inr ⟨by
        rw [hd]
        unfold splitP
        split
        · rename_i h
          simp only [List.cons.injEq] at h
          exact absurd h.1 h47
        · rfl, rfl, rfl⟩)
      clear h47 hd
      go_enter Tryd.func8, Tryd.ntmps8
      go_wp2
      go_ret2
      exact ⟨⟨_, _, _, rfl, nil_sl w, hR.out⟩, Below.refl _ _⟩
  · have h0' : (s.size : Int) < 1 := by omega
    have hR := Lib.hid (show rsplitOk s false [] from .inr ⟨by
      have : bs s = [] := List.eq_nil_of_length_eq_zero (by rw [bs_len]; omega)
      rw [this]; rfl, rfl, rfl⟩)
    go_enter Tryd.func8, Tryd.ntmps8
    go_wp2
    go_ret2
    exact ⟨⟨_, _, _, rfl, nil_sl w, hR.out⟩, Below.refl _ _⟩
end Go.Proofs.YtapmjchlkaicpaaDoor
