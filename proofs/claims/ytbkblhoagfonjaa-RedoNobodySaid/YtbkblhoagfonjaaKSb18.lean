/- Pieces are joined to a record. -/
import Derived.Test.YtbkblhoagfonjaaKSb14
import Derived.Test.YtbkblhoagfonjaaKSb8
import Derived.Test.YtbkblhoagfonjaaKSb15
/- A piece of the ring is read, walked. -/
namespace Go.Tn
open Go.RowKit
/-- A step that answers nothing and keeps what is read; guarded or not. -/
theorem g_skipS {P : Program} {ops : Array Oper} {Q : Exit → Act → World → Prop} {S : World → Prop} {i : Nat} {r : List (Nat × Nat)} {a : Act} {w : World} {o : Oper} (ho : ops[i]? = some o) (hw : Region.wanted o (yielded ops a.tmps) = true) {w' : World} (hr : (execOp a.eval o).run P w = .ok .skip w') (hS : S w') (h : wpG P ops Q S r (a.put o.dst undef) w') : wpG P ops Q S ((i, 2) :: r) a w := by
  refine ⟨o, ho, .inr ⟨hw, ?_⟩⟩
  simp only [Oper.wp, hr, Oper.upon]
  exact ⟨hS, h⟩
end Go.Tn
namespace Go.Tn.Dk
open Go.Tn.Bt Go.Tn.Lp
/-- The piece of a count, if it is there. -/
def pieceB (d : Dsk) (n c : Nat) : Option Pc := match unsealB (d.get (2 + c % n)) with
  | some q => if q.ct = c then some q else none
  | none => none
end Go.Tn.Dk
namespace Go.Proofs.Ytbkblhoagfonjaa
open Go.RowKit Go.Tn Go.Tn.Bt Go.Tn.Lp Go.Tn.Dk
theorem onePc (ep ct : Int) (fi la : Bool) (ao : Option Addr) (n c : Nat) : (#[.int .u64 ep, .int .u64 ct, .bool fi, .bool la, .slice ao n c] : Array Value).all (·.oneCell') = true := by simp [Value.oneCell']
/-- What piece answers. -/
def PieceR (B : Nat) (w' : World) (r : Option Pc) (e : Ending) : Prop := match r with
  | some q => ∃ v', e = .returned (.tuple #[.agg (pcCs q v'), .bool true]) ∧ LOut en8 1 5 B w' v' q.da
  | none => ∃ (q : Pc) (a : Option Addr) (n c : Nat), e = .returned (.tuple #[.agg (pcCs q (.slice a n c)), .bool false])
set_option maxRecDepth 20000 in
set_option maxHeartbeats 4000000 in
theorem piece_any {w : World} {F FD : Nat → Prop} {g p : Nat} {l : Lg} {d : Dsk} (h : LAt w F g p l) (hd : DAt w FD p d) (hn2 : 2 ≤ l.n) (hn : l.n + 3 ≤ d.L.length) (c : Nat) (hc : c < 2 ^ 63) :
    Calls Try.prog 73 #[.pointer (some ⟨g, 0, none⟩), .int .u64 c] w fun e w' => Below w.heap.size w w' ∧ PieceR w.heap.size w' (pieceB d l.n c) e := by
  have hhi := hd.ok.hi
  have hlt := h.lt g h.fg
  have hb0 : Below w.heap.size w (w.alloc (.cells #[.int .u64 0, .int .u64 0, .bool false, .bool false, .slice none 0 0] 78)) := (Below.refl _ _).alloc (Nat.le_refl _) _
  have hz0 : (w.alloc (.cells #[.int .u64 0, .int .u64 0, .bool false, .bool false, .slice none 0 0] 78)).heap.size = w.heap.size + 1 := by simp
  have hh0 : (w.alloc (.cells #[.int .u64 0, .int .u64 0, .bool false, .bool false, .slice none 0 0] 78)).heap[w.heap.size]? = some (.cells #[.int .u64 0, .int .u64 0, .bool false, .bool false, .slice none 0 0] 78 (0, 0)) := heap_alloc_at
  have hix : 2 + c % l.n < d.L.length := by have := Nat.mod_lt c (show 0 < l.n by omega); omega
  have hpl := gplace_any ((h.below hb0).below (Below.refl _ _).drew) hn2 (by omega) c hc
  have hrd := dread_any ((hd.below hb0).below (Below.refl _ _).drew) (2 + c % l.n) hix
  have hsec := hd.ok.get hix
  obtain ⟨m, L, clk, hb, -⟩ := h.ex
  have hS : (w.alloc (.cells #[.int .u64 0, .int .u64 0, .bool false, .bool false, .slice none 0 0] 78)).drew.cell? ⟨g, 0, none⟩ = some (.pointer (some ⟨p, 0, none⟩)) := (hb0.cell (p := ⟨g, 0, none⟩) hlt).trans (cell_of (o := 0) hb rfl)
  have hE : pieceB d l.n c = match unsealB (d.get (2 + c % l.n)) with | some q => if q.ct = c then some q else none | none => none := rfl
  have HE := Lib.hid hE
  have HB0 := Lib.hid hb0
  have HH0 := Lib.hid hh0
  have HZ0 := Lib.hid hz0
  have HSEC := Lib.hid hsec
  generalize d.get (2 + c % l.n) = bs at *
  generalize 2 + c % l.n = ix at *
  generalize pieceB d l.n c = R at *
  have hc63 : (c : Int) < 9223372036854775808 := by omega
  clear hb0 hh0 hz0 h hd hb hE hsec hix
  go_enter Try.func73, Try.ntmps73
  go_upto_region 1 with fail
  generalize w.alloc (.cells #[.int .u64 0, .int .u64 0, .bool false, .bool false, .slice none 0 0] 78) = w0 at *
  refine wp_region_x (fun w' => w'.cell? ⟨g, 0, none⟩ = some (.pointer (some ⟨p, 0, none⟩))) [(0, 1), (1, 1), (2, 1), (3, 0), (4, 1), (5, 1), (6, 2), (7, 2), (8, 1), (9, 1), (10, 1), (11, 1), (12, 1)] (by kernel_rfl) (by kernel_rfl) (by intro d v c a w h; cases d <;> exact h) ?_
  iterate 3 (refine x_take rfl (fun K hK => ?_); go_simp; refine hK _ ?_; clear hK K)
  refine x_read rfl hS (fun w' h => exec_load1 ⟨⟨_, Try.underlying25, rfl⟩⟩ rfl h) ?_
  iterate 2 (refine x_take rfl (fun K hK => ?_); go_simp; refine hK _ ?_; clear hK K)
  refine x_show' rfl (fun K hK => ?_)
  go_simp
  refine hpl.mono ?_
  rintro e w2 ⟨rfl, hw⟩
  obtain rfl := hw.symm
  refine hK _ _ hS ?_
  clear hK K hw
  refine x_show' rfl (fun K hK => ?_)
  go_simp
  refine hrd.mono ?_
  rintro e w2 ⟨v, rfl, hv, hb2⟩
  have hu := unseal_any w2 v bs hv.sl HSEC.out.2
  obtain ⟨va, vc, rfl, -⟩ := hv.sl
  have hz0' : w0.drew.heap.size = w.heap.size + 1 := HZ0.out
  rw [hz0'] at hb2
  have HB2 : Hid (Below (w.heap.size + 1) w0 w2) := Lib.hid ((Below.refl _ _).drew.trans hb2)
  refine hK _ _ ((hb2.cell (p := ⟨g, 0, none⟩) (by show g < _; omega)).trans hS) ?_
  clear hK K hv hb2 hS hrd hpl hz0'
  iterate 5 (refine x_take rfl (fun K hK => ?_); go_simp; refine hK _ ?_; clear hK K)
  refine x_nil ?_
  go_wp2_with fail
  refine hu.mono ?_
  rintro e w3 ⟨hb3, hR⟩
  have HB3 : Hid (Below (w.heap.size + 1) w0 w3) := Lib.hid (HB2.out.trans (hb3.mono (by have := HB2.out.size; rw [HZ0.out] at this; omega)))
  have hz3 : w.heap.size + 1 ≤ w3.heap.size := by have := HB3.out.size; rw [HZ0.out] at this; exact this
  have hz2 : w.heap.size + 1 ≤ w2.heap.size := by have := HB2.out.size; rw [HZ0.out] at this; exact this
  clear hb3 hu
  -- what follows, the piece in hand
  have hq : ∀ (ep ct : Nat) (fi la : Bool) (a4 : Option Addr) (n4 c4 : Nat), (w3.alloc (.cells #[.int .u64 (ep : Nat), .int .u64 (ct : Nat), .bool fi, .bool la, .slice a4 n4 c4] 78)).drew.heap[w.heap.size]? = some (.cells #[.int .u64 0, .int .u64 0, .bool false, .bool false, .slice none 0 0] 78 (0, 0)) := fun ep ct fi la a4 n4 c4 => heap_alloc_of ((HB3.out.block w.heap.size (by omega)).trans HH0.out)
  have HQ := Lib.hid hq
  clear hq
  cases hcu : unsealB bs with
  | none =>
    have HE2 : Hid (R = none) := Lib.hid (by rw [HE.out, hcu])
    rw [hcu] at hR
    simp only at hR
    subst hR
    clear hcu
    have hbox : (w3.alloc (.cells #[.int .u64 0, .int .u64 0, .bool false, .bool false, .slice none 0 0] 78)).drew.heap[w3.heap.size]? = some (.cells #[.int .u64 0, .int .u64 0, .bool false, .bool false, .slice none 0 0] 78 (0, 0)) := heap_alloc_at
    have hS := lies_of hbox
    obtain ⟨w9, hr9, hh9, hm9⟩ := exec_storeB (P := Try.prog) (ρ := fun _ => undef) (ty := 0) (pos := "") (after := #[]) (x := .tmp 0) (y := .tmp 0) (aggPc 0 0 false false (.slice none 0 0)) (HQ.out 0 0 false false none 0 0) rfl (onePc _ _ _ _ _ _ _)
    have hB9 : Below w.heap.size w w9 := HB0.out.trans (((HB3.out.mono (Nat.le_succ _)).alloc (by omega) _).drew.trans (hm9.below (by simp; omega) fun x hx e => by omega))
    go_upto_region 5 with fail
    refine wp_region_g (fun w' => Lies w' w3.heap.size 0 #[.int .u64 0, .int .u64 0, .bool false, .bool false, .slice none 0 0]) [(0, 0), (1, 1), (2, 1), (3, 1), (4, 1), (5, 0), (6, 1), (7, 1), (8, 1), (9, 2), (10, 1)] (by kernel_rfl) (by kernel_rfl) (by intro d v c a w h; cases d <;> exact h) ?_
    refine g_read rfl rfl hS (fun w' h => exec_loadA (aggPc _ _ _ _ _) rfl h) ?_
    iterate 3 (refine g_take rfl rfl (fun K hK => ?_); go_simp; refine hK _ ?_; clear hK K)
    iterate 4 (refine g_offK rfl rfl (fun _ => hS) (fun K hK => ?_); go_simp; refine hK _ ?_; clear hK K)
    iterate 1 (refine g_take rfl rfl (fun K hK => ?_); go_simp; refine hK _ ?_; clear hK K)
    refine g_skipS rfl rfl (hr9 _ _ _ _ _ _ _ _ rfl rfl) (lies_mod hS hm9 (fun e => by have e : w3.heap.size = w.heap.size := e; omega)) ?_
    iterate 1 (refine g_take rfl rfl (fun K hK => ?_); go_simp; refine hK _ ?_; clear hK K)
    refine g_nil ?_
    have HH9 := Lib.hid hh9
    have HB9 := Lib.hid hB9
    clear hbox hS hr9 hh9 hm9 hB9
    go_wp2
    refine bodyPost_ret (results_cellT rfl _ rfl (aggPc 0 0 false false (.slice none 0 0)) (lies_of HH9.out)) rfl ?_
    rw [HE2.out]
    exact ⟨HB9.out, ⟨0, 0, false, false, []⟩, none, 0, 0, rfl⟩
  | some q =>
    have hqo := (unsealB_ok HSEC.out.2 hcu).1
    have HE2 : Hid (R = if q.ct = c then some q else none) := Lib.hid (by rw [HE.out, hcu])
    rw [hcu] at hR
    simp only at hR
    obtain ⟨v4, rfl, hO4⟩ := hR
    obtain ⟨ep, ct, fi, la, da⟩ := q
    obtain ⟨a4, n4, c4, rfl⟩ := hO4.shape
    simp only [pcCs] at HE2 ⊢
    have hbox : (w3.alloc (.cells #[.int .u64 (ep : Nat), .int .u64 (ct : Nat), .bool fi, .bool la, .slice a4 n4 c4] 78)).drew.heap[w3.heap.size]? = some (.cells #[.int .u64 (ep : Nat), .int .u64 (ct : Nat), .bool fi, .bool la, .slice a4 n4 c4] 78 (0, 0)) := heap_alloc_at
    have hS := lies_of hbox
    obtain ⟨w9, hr9, hh9, hm9⟩ := exec_storeB (P := Try.prog) (ρ := fun _ => undef) (ty := 0) (pos := "") (after := #[]) (x := .tmp 0) (y := .tmp 0) (aggPc (ep : Nat) (ct : Nat) fi la (.slice a4 n4 c4)) (HQ.out ep ct fi la a4 n4 c4) rfl (onePc _ _ _ _ _ _ _)
    have hB9 : Below w.heap.size w w9 := HB0.out.trans (((HB3.out.mono (Nat.le_succ _)).alloc (by omega) _).drew.trans (hm9.below (by simp; omega) fun x hx e => by omega))
    have hO9 : LOut en8 1 5 w.heap.size w9 (.slice a4 n4 c4) da := by
      have h1 := hO4.below (((Below.refl w3.heap.size w3).alloc (Nat.le_refl _) (.cells #[.int .u64 (ep : Nat), .int .u64 (ct : Nat), .bool fi, .bool la, .slice a4 n4 c4] 78)).drew)
      exact (h1.kept hm9.size fun r hr => hm9.block r (h1.lt hr) fun e => by
        have e : r = w.heap.size := e
        have := hO4.lo r hr
        omega).mono (by omega)
    obtain ⟨t, ht⟩ : ∃ t, decide (ct = c) = t := ⟨_, rfl⟩
    have hteq : ((ct : Int) == (c : Int)) = t := by rw [← ht, Bool.eq_iff_iff, beq_iff_eq, decide_eq_true_eq]; omega
    have HT := Lib.hid ht
    clear hcu ht hO4 hqo
    go_upto_region 5 with fail
    refine wp_region_g (fun w' => Lies w' w3.heap.size 0 #[.int .u64 (ep : Nat), .int .u64 (ct : Nat), .bool fi, .bool la, .slice a4 n4 c4]) [(0, 0), (1, 1), (2, 1), (3, 1), (4, 1), (5, 0), (6, 1), (7, 1), (8, 1), (9, 2), (10, 1)] (by kernel_rfl) (by kernel_rfl) (by intro d v c a w h; cases d <;> exact h) ?_
    refine g_read rfl rfl hS (fun w' h => exec_loadA (aggPc _ _ _ _ _) rfl h) ?_
    iterate 4 (refine g_take rfl rfl (fun K hK => ?_); go_simp; refine hK _ ?_; clear hK K)
    refine g_read rfl rfl hS (fun w' h => exec_load1 ⟨⟨_, Try.underlying51, rfl⟩⟩ rfl (h 1 (by simp))) ?_
    iterate 3 (refine g_take rfl rfl (fun K hK => ?_); go_simp; refine hK _ ?_; clear hK K)
    refine g_skipS rfl rfl (hr9 _ _ _ _ _ _ _ _ rfl rfl) (lies_mod hS hm9 (fun e => by have e : w3.heap.size = w.heap.size := e; omega)) ?_
    iterate 1 (refine g_take rfl rfl (fun K hK => ?_); go_simp; refine hK _ ?_; clear hK K)
    refine g_nil ?_
    have HH9 := Lib.hid hh9
    have HB9 := Lib.hid hB9
    have HO9 := Lib.hid hO9
    clear hbox hS hr9 hh9 hm9 hB9 hO9
    go_wp2
    refine bodyPost_ret (results_cellT rfl _ rfl (aggPc _ _ _ _ _) (lies_of HH9.out)) rfl ?_
    rw [HE2.out]
    by_cases hcc : ct = c
    · have hT : t = true := by rw [← HT.out]; simp [hcc]
      rw [if_pos hcc, hT]
      exact ⟨HB9.out, .slice a4 n4 c4, rfl, HO9.out⟩
    · have hT : t = false := by rw [← HT.out]; simp [hcc]
      rw [if_neg hcc, hT]
      exact ⟨HB9.out, ⟨ep, ct, fi, la, da⟩, a4, n4, c4, rfl⟩
end Go.Proofs.Ytbkblhoagfonjaa

/- Pieces are joined to a record. -/
namespace Go.Proofs.Ytbkblhoagfonjaa
open Go.RowKit Go.Tn Go.Tn.Bt Go.Tn.Lp
/-- Pieces in a slice that can be read. -/
def PcsI (w : World) (v : Value) (ps : List Pc) : Prop := ∃ xs : List (Pc × Sv), xs.map (·.1) = ps ∧ LSl enPc 5 w v xs ∧ Datas w xs
theorem PcsI.below {w w' : World} {v : Value} {ps : List Pc} (h : PcsI w v ps) (hb : Below w.heap.size w w') : PcsI w' v ps := by
  obtain ⟨xs, h1, h2, h3⟩ := h
  exact ⟨xs, h1, h2.below hb, h3.below hb⟩
theorem PcsO.rd {B : Nat} {w : World} {v : Value} {ps : List Pc} (h : PcsO B w v ps) : PcsI w v ps := by
  obtain ⟨xs, h1, h2, h3⟩ := h
  exact ⟨xs, h1, h2.sl elPc.len, fun x hx => (h3 x hx).1⟩
instance : DecidableEq Pc := fun a b => decidable_of_iff (a.ep = b.ep ∧ a.ct = b.ct ∧ a.fi = b.fi ∧ a.la = b.la ∧ a.da = b.da) (by
  cases a; cases b; simp)
def recOf (ps : List Pc) : List Nat := ps.flatMap (·.da)
/-- Numbers that a piece in memory has. -/
def pcOk (p : Pc) : Prop := p.ep < 2 ^ 64 ∧ p.ct < 2 ^ 64 ∧ ∀ x ∈ p.da, x < 256
/-- What Join answers. -/
def joinB (ps : List Pc) : Option (List Nat) := match ps with
  | [] => none
  | p :: _ => match cutB p.ep p.ct (recOf ps) with
    | .ok want => if want = ps then some (recOf ps) else none
    | .error _ => none
theorem recOf_take (ps : List Pc) (k : Nat) (p : Pc) (h : ps[k]? = some p) : recOf (ps.take (k + 1)) = recOf (ps.take k) ++ p.da := by
  unfold recOf
  rw [List.take_add_one, h]
  simp
theorem recOf_lt {ps : List Pc} (h : ∀ p ∈ ps, pcOk p) : ∀ x ∈ recOf ps, x < 256 := fun x hx => by
  obtain ⟨p, hp, hx⟩ := List.mem_flatMap.1 hx
  exact (h p hp).2.2 x hx
theorem recOf_take_le (ps : List Pc) (k : Nat) : (recOf (ps.take k)).length ≤ (recOf ps).length := by
  have : recOf ps = recOf (ps.take k) ++ recOf (ps.drop k) := by
    unfold recOf
    rw [← List.flatMap_append, List.take_append_drop]
  rw [this, List.length_append]
  omega
theorem aggP (x : Pc × Sv) : AggT Try.prog 78 (enPc x).toArray.size := ⟨⟨_, Try.underlying78, rfl⟩, by kernel_rfl⟩
/-- What Join answers, in memory. -/
def JoinR (B : Nat) (w' : World) (r : Option (List Nat)) (e : Ending) : Prop := match r with
  | none => e = .returned (.tuple #[.slice none 0 0, .int .i64 4])
  | some bs => ∃ v', e = .returned (.tuple #[v', .int .i64 0]) ∧ LOut en8 1 5 B w' v' bs
set_option maxRecDepth 20000 in
set_option maxHeartbeats 4000000 in
theorem join_any (w : World) (v : Value) (ps : List Pc) (h : PcsI w v ps) (hok : ∀ p ∈ ps, pcOk p) (hl : (recOf ps).length ≤ 50000) (hn : ps.length ≤ 100000) :
    Calls Try.prog 53 #[v] w fun e w' => Below w.heap.size w w' ∧ JoinR w.heap.size w' (joinB ps) e := by
  obtain ⟨xs, hxs, hL, hD⟩ := h
  have hxl : xs.length = ps.length := by rw [← hxs]; simp
  have hL0 := hL
  obtain ⟨ao, cap, rfl, h1, h2, h3⟩ := hL
  rw [hxl] at h1 h3 hL0 ⊢
  unfold maxLen at h2
  have HOK := Lib.hid hok
  have HXS := Lib.hid hxs
  have HL := Lib.hid hL0
  have HD := Lib.hid hD
  have HXL := Lib.hid hxl
  clear hok hxs hL0 hD hxl
  have h63 : (ps.length : Int) ≤ 100000 := by omega
  go_enter Try.func53, Try.ntmps53
  go_wp2_with fail
  go_loopw [4, 14] (fun av iv wi => ∃ k : Nat, k ≤ ps.length ∧ iv = .int .i64 k ∧ LOut en8 1 5 w.heap.size wi av (recOf (ps.take k)) ∧ Below w.heap.size w wi) (fun _ iv _ => ps.length - (intOf iv).toNat)
  case atStart => exact ⟨0, Nat.zero_le _, rfl, LOut.nil (Nat.le_refl _), Below.refl _ _⟩
  case round =>
    obtain ⟨k, hk, rfl, hO, hb⟩ := hrel
    by_cases hkl : k < ps.length
    · have hkl' : (k : Int) < (ps.length : Int) := by omega
      obtain ⟨x, hx⟩ : ∃ x, xs[k]? = some x := ⟨_, List.getElem?_eq_getElem (by rw [HXL.out]; exact hkl)⟩
      obtain ⟨b, off, rfl, hbl, hcells⟩ := h3 (by omega)
      have hlies := hcells k x hx
      have hpx : ps[k]? = some x.1 := by rw [← HXS.out, List.getElem?_map, hx]; rfl
      have hrt := recOf_take ps k x.1 hpx
      have hrl := recOf_take_le ps (k + 1)
      have hdx := HD.out x (List.mem_of_getElem? hx)
      rw [hrt, List.length_append] at hrl
      have hsz : (recOf (ps.take k)).length + x.1.da.length ≤ 100000 := by omega
      have HO := Lib.hid hO
      have HB := Lib.hid hb
      have HRT := Lib.hid hrt
      obtain ⟨⟨ep, ct, fi, la, da⟩, ⟨da0, dn, dc⟩⟩ := x
      have HLS : Hid (Lies wr b (off + k * 5) #[.int .u64 ep, .int .u64 ct, .bool fi, .bool la, .slice da0 dn dc]) := Lib.hid (hlies.below' hb hbl)
      have HDX : Hid (LSl en8 1 w (.slice da0 dn dc) da) := Lib.hid hdx
      clear hx hcells hlies hpx hrt hdx hO hb
      go_upto_region 5 with (first
        | ((with_reducible refine wpList_loadA (aggPc _ _ _ _ _) HLS.out ?_ ?_); rfl; go_frame)
        | fail)
      have hb1 : Below wr.heap.size wr (wr.alloc (.cells #[.int .u64 ep, .int .u64 ct, .bool fi, .bool la, .slice da0 dn dc] 78)) := (Below.refl _ _).alloc (Nat.le_refl _) _
      have HO1 := Lib.hid (HO.out.below hb1)
      have HD1 := Lib.hid ((HDX.out.below HB.out).below hb1)
      clear hb1
      go_wp2_with (first
        | ((with_reducible refine wpList_appendN el8 HO1.out HD1.out hsz ?_ ?_ ?_); rfl; rfl; (intro v5 w5 hO5 hg5 hl5; have HO5 := Lib.hid hO5; have HG5 := Lib.hid hg5; clear hO5 hg5 hl5); go_frame)
        | fail)
      have hlo : ∀ b, u4.ownBlock = some b → w.heap.size ≤ b := HO.out.lo
      have hb5 : Below w.heap.size w w5 := (HB.out.alloc HB.out.size _).grown HG5.out (by have := HB.out.size; simp; omega) hlo
      go_roundw
      case rel => exact ⟨k + 1, by omega, by go_num, by rw [HRT.out]; exact HO5.out, hb5⟩
      case measure => simp [intOf]; omega
    · obtain rfl : k = ps.length := by omega
      rw [List.take_length] at hO
      obtain ⟨a5, n5, c5, rfl⟩ := hO.shape
      have HO := Lib.hid hO
      have HB := Lib.hid hb
      clear hO hb
      by_cases h0 : ps = []
      · subst h0
        simp only [List.length_nil, Int.ofNat_zero] at *
        go_wp2
        go_ret2
        exact ⟨HB.out, rfl⟩
      · have hpos := List.length_pos_iff.2 h0
        have hps0 : ((ps.length : Int) == 0) = false := by simp; omega
        go_upto_region 9 with fail
        obtain ⟨x0, hx0⟩ : ∃ x, xs[0]? = some x := ⟨_, List.getElem?_eq_getElem (by rw [HXL.out]; exact hpos)⟩
        obtain ⟨b, off, rfl, hbl, hcells⟩ := h3 (by omega)
        have hlies := hcells 0 x0 hx0
        have hp0 : ps[0]? = some x0.1 := by rw [← HXS.out, List.getElem?_map, hx0]; rfl
        have hok0 := HOK.out x0.1 (List.mem_of_getElem? hp0)
        obtain ⟨⟨ep, ct, fi, la, da⟩, ⟨da0, dn, dc⟩⟩ := x0
        have hS : Lies wr.drew b off #[.int .u64 ep, .int .u64 ct, .bool fi, .bool la, .slice da0 dn dc] := by
          have := hlies.below' HB.out hbl
          rw [Nat.zero_mul] at this
          exact this
        have hcut := cut_any wr.drew ep ct (.slice a5 n5 c5) (recOf ps) ((HO.out.below (Below.refl _ _).drew).sl el8.len) hok0.1 hok0.2.1 hl
        have hjoin : joinB ps = match cutB ep ct (recOf ps) with | .ok want => if want = ps then some (recOf ps) else none | .error _ => none := by
          cases ps with
          | nil => simp at hpos
          | cons p t => cases hp0; rfl
        have HJ := Lib.hid hjoin
        clear hx0 hlies hp0 hok0 hcells hjoin
        refine wp_region_x (fun w' => Lies w' b off #[.int .u64 ep, .int .u64 ct, .bool fi, .bool la, .slice da0 dn dc]) [(0, 1), (1, 1), (2, 1), (3, 0), (4, 1), (5, 1), (6, 1), (7, 0), (8, 1), (9, 2), (10, 1), (11, 1), (12, 1), (13, 1), (14, 1)] (by kernel_rfl) (by kernel_rfl) (by intro d v c a w h; cases d <;> exact h) ?_
        iterate 3 (refine x_take rfl (fun K hK => ?_); go_simp; refine hK _ ?_; clear hK K)
        refine x_read rfl hS (fun w' h => exec_load1 ⟨⟨_, Try.underlying51, rfl⟩⟩ rfl (h 0 (by simp))) ?_
        iterate 3 (refine x_take rfl (fun K hK => ?_); go_simp; refine hK _ ?_; clear hK K)
        refine x_read rfl hS (fun w' h => exec_load1 ⟨⟨_, Try.underlying51, rfl⟩⟩ rfl (h 1 (by simp))) ?_
        iterate 1 (refine x_take rfl (fun K hK => ?_); go_simp; refine hK _ ?_; clear hK K)
        refine x_show' rfl (fun K hK => ?_)
        go_simp
        refine hcut.mono ?_
        rintro e w2 ⟨hb2, hR⟩
        have hS2 := hS.below' hb2 (World.block_lt_of_cell? _ _ (hS 0 (by simp)))
        have hb02 : Below w.heap.size w w2 := HB.out.drew.trans (hb2.mono HB.out.size)
        have HB2 : Hid (Below wr.heap.size wr w2) := Lib.hid ((Below.refl wr.heap.size wr).drew.trans hb2)
        have HB02 := Lib.hid hb02
        unfold CutR at hR
        cases hc : cutB ep ct (recOf ps) with
        | error k =>
          rw [hc] at hR
          simp only at hR
          subst hR
          refine hK _ _ hS2 ?_
          clear hK K
          iterate 5 (refine x_take rfl (fun K hK => ?_); go_simp; refine hK _ ?_; clear hK K)
          refine x_nil ?_
          have hk : k = 2 ∨ k = 5 := by
            unfold cutB at hc
            split at hc
            · cases hc; exact .inl rfl
            · split at hc
              · cases hc; exact .inr rfl
              · cases hc
          have hfin : joinB ps = none := by rw [HJ.out, hc]
          have HF := Lib.hid hfin
          clear hS hcut hS2 hb2 hb02 hfin hc
          rcases hk with rfl | rfl
          · go_wp2
            go_ret2
            exact ⟨HB02.out, by rw [HF.out]; rfl⟩
          · go_wp2
            go_ret2
            exact ⟨HB02.out, by rw [HF.out]; rfl⟩
        | ok want =>
          rw [hc] at hR
          simp only at hR
          obtain ⟨v2, rfl, xs2, hxs2, hO2, hD2⟩ := hR
          have hL2 := hO2.sl elPc.len
          have hx2l : xs2.length = want.length := by rw [← hxs2]; simp
          obtain ⟨a6, c6, rfl, hl2, hm2, hc2⟩ := hL2
          rw [hx2l] at hO2 hl2 hc2 ⊢
          unfold maxLen at hm2
          refine hK _ _ hS2 ?_
          clear hK K
          iterate 5 (refine x_take rfl (fun K hK => ?_); go_simp; refine hK _ ?_; clear hK K)
          refine x_nil ?_
          have hfin : joinB ps = if want = ps then some (recOf ps) else none := by rw [HJ.out, hc]
          have HF := Lib.hid hfin
          have hwb : ∀ p ∈ want, ∀ x ∈ p.da, x < 256 := by
            unfold cutB at hc
            split at hc
            · cases hc
            · split at hc
              · cases hc
              · cases hc
                exact cutL_lt (recOf_lt HOK.out) _ _
          have HO2 := Lib.hid hO2
          have HD2 := Lib.hid hD2
          have HX2 := Lib.hid hxs2
          have HX2L := Lib.hid hx2l
          have HWB := Lib.hid hwb
          clear hS hcut hS2 hb2 hb02 hfin hc hO2 hD2 hxs2 hx2l hwb
          by_cases hlen : want.length = ps.length
          · have hne : ((want.length : Int) != (ps.length : Int)) = false := by rw [hlen]; simp
            have hwl63 : (want.length : Int) ≤ 100000 := by omega
            have hle1 : want.length ≤ ps.length := by omega
            have hle2 : ps.length ≤ want.length := by omega
            have HLEN := Lib.hid hlen
            clear hlen
            go_wp2_with fail
            clear hne
            go_loopw [50] (fun iv wi => ∃ k : Nat, k ≤ want.length ∧ iv = .int .i64 k ∧ want.take k = ps.take k ∧ Below w2.heap.size w2 wi) (fun iv _ => want.length - (intOf iv).toNat)
            case atStart => exact ⟨0, Nat.zero_le _, rfl, rfl, Below.refl _ _⟩
            case round =>
              obtain ⟨k, hk, rfl, htk, hbi⟩ := hrel
              by_cases hkl : k < want.length
              · have hkl' : (k : Int) < (want.length : Int) := by omega
                have hkp' : (k : Int) < (ps.length : Int) := by omega
                obtain ⟨x1, hx1⟩ : ∃ x, xs[k]? = some x := ⟨_, List.getElem?_eq_getElem (by rw [HXL.out]; omega)⟩
                obtain ⟨x2, hx2⟩ : ∃ x, xs2[k]? = some x := ⟨_, List.getElem?_eq_getElem (by rw [HX2L.out]; omega)⟩
                have hb0i : Below w.heap.size w wr := HB02.out.trans (hbi.mono HB02.out.size)
                obtain ⟨bb, oo, hbo, hbb, hcells⟩ := h3 (by omega)
                cases hbo
                have hp1 : ps[k]? = some x1.1 := by rw [← HXS.out, List.getElem?_map, hx1]; rfl
                have hp2 : want[k]? = some x2.1 := by rw [← HX2.out, List.getElem?_map, hx2]; rfl
                have hlw := World.block_lt_of_cell? _ _ (show wr.cell? ⟨b, off + k * 5 + 0, none⟩ = _ from (hcells k x1 hx1).below' hb0i hbb 0 (by simp [enPc]))
                have hl1 := (hcells k x1 hx1).below' hb0i hbb
                obtain ⟨b2, o2, rfl, hbb2, hcells2⟩ := hc2 (by omega)
                have hl2' := (hcells2 k x2 hx2).below' hbi hbb2
                have hd1 := (HD.out x1 (List.mem_of_getElem? hx1)).below hb0i
                have hd2 := (HD2.out x2 (List.mem_of_getElem? hx2)).1.below hbi
                have hby1 := (HOK.out x1.1 (List.mem_of_getElem? hp1)).2.2
                have hby2 := HWB.out x2.1 (List.mem_of_getElem? hp2)
                obtain ⟨⟨p, q, s, t, u⟩, ⟨da1, dn1, dc1⟩⟩ := x1
                obtain ⟨⟨p2, q2, s2, t2, u2⟩, ⟨da2, dn2, dc2⟩⟩ := x2
                have HL1 : Hid (Lies wr b (off + k * 5) #[.int .u64 p, .int .u64 q, .bool s, .bool t, .slice da1 dn1 dc1]) := Lib.hid hl1
                have hl2w : Lies (wr.alloc (.cells #[.int .u64 p2, .int .u64 q2, .bool s2, .bool t2, .slice da2 dn2 dc2] 78)) b (off + k * 5) #[.int .u64 p, .int .u64 q, .bool s, .bool t, .slice da1 dn1 dc1] :=
                  Lies.below' hl1 ((Below.refl wr.heap.size wr).alloc (Nat.le_refl _) _) hlw
                have HL1A := Lib.hid hl2w
                have HL2 : Hid (Lies wr b2 (o2 + k * 5) #[.int .u64 p2, .int .u64 q2, .bool s2, .bool t2, .slice da2 dn2 dc2]) := Lib.hid hl2'
                have heq := fun w3 (hb3 : Below wr.heap.size wr w3) => equal_any w3 (.slice da2 dn2 dc2) (.slice da1 dn1 dc1) u2 u (LSl.below hd2 hb3) (LSl.below hd1 hb3) hby2 hby1
                have hb3 : Below wr.heap.size wr ((wr.alloc (.cells #[.int .u64 p2, .int .u64 q2, .bool s2, .bool t2, .slice da2 dn2 dc2] 78)).alloc (.cells #[.int .u64 p, .int .u64 q, .bool s, .bool t, .slice da1 dn1 dc1] 78)) :=
                  ((Below.refl _ _).alloc (Nat.le_refl _) _).alloc (by simp) _
                have heq := heq _ hb3
                have HBI := Lib.hid hbi
                have HB3 := Lib.hid hb3
                have HTK := Lib.hid htk
                have HP1 := Lib.hid hp1
                have HP2 := Lib.hid hp2
                clear hx1 hx2 hp1 hp2 hl1 hl2' hd1 hd2 hby1 hby2 hl2w hbi hb3 htk hb0i hcells hcells2 hlw
                by_cases hpe : (⟨p2, q2, s2, t2, u2⟩ : Pc) = ⟨p, q, s, t, u⟩
                · cases hpe
                  have hdec : decide (u = u) = true := by simp
                  rw [hdec] at heq
                  go_upto_region 16 with (first
                    | ((with_reducible refine wpList_loadA (aggPc _ _ _ _ _) HL2.out ?_ ?_); rfl; go_frame)
                    | ((with_reducible refine wpList_loadA (aggPc _ _ _ _ _) HL1A.out ?_ ?_); rfl; go_frame)
                    | fail)
                  go_wp2_with (first
                    | (go_at_call 74; refine heq.mono ?_; rintro e w3 ⟨rfl, hw⟩; obtain rfl := hw.symm; clear hw)
                    | fail)
                  go_roundw
                  case rel => exact ⟨k + 1, by omega, by go_num, by rw [List.take_add_one, List.take_add_one, HTK.out, HP1.out, HP2.out], HBI.out.trans (HB3.out.mono HBI.out.size)⟩
                  case measure => simp [intOf]; omega
                · have hno : ¬ want = ps := fun e => by
                    have h1 := HP1.out
                    have h2 := HP2.out
                    rw [e, h1] at h2
                    exact hpe (Option.some.inj h2).symm
                  rw [if_neg hno] at HF
                  clear hno
                  by_cases hp : p2 = p
                  rotate_left
                  · have hxp : ((p2 : Int) != (p : Int)) = true := by rw [bne_iff_ne]; omega
                    clear hpe
                    go_wp2_with (first
                      | ((with_reducible refine wpList_loadA (aggPc _ _ _ _ _) HL2.out ?_ ?_); rfl; go_frame)
                      | ((with_reducible refine wpList_loadA (aggPc _ _ _ _ _) HL1A.out ?_ ?_); rfl; go_frame)
                      | (go_at_call 74; refine heq.mono ?_; rintro e w3 ⟨rfl, hw⟩; obtain rfl := hw.symm; clear hw)
                      | fail)
                    go_ret2
                    exact ⟨HB02.out.trans ((HBI.out.trans (HB3.out.mono HBI.out.size)).mono HB02.out.size), by rw [HF.out]; rfl⟩
                  subst hp
                  by_cases hq : q2 = q
                  rotate_left
                  · have hxq : ((q2 : Int) != (q : Int)) = true := by rw [bne_iff_ne]; omega
                    clear hpe
                    go_wp2_with (first
                      | ((with_reducible refine wpList_loadA (aggPc _ _ _ _ _) HL2.out ?_ ?_); rfl; go_frame)
                      | ((with_reducible refine wpList_loadA (aggPc _ _ _ _ _) HL1A.out ?_ ?_); rfl; go_frame)
                      | (go_at_call 74; refine heq.mono ?_; rintro e w3 ⟨rfl, hw⟩; obtain rfl := hw.symm; clear hw)
                      | fail)
                    go_ret2
                    exact ⟨HB02.out.trans ((HBI.out.trans (HB3.out.mono HBI.out.size)).mono HB02.out.size), by rw [HF.out]; rfl⟩
                  subst hq
                  by_cases hs : s2 = s
                  rotate_left
                  · have hxs : (s2 != s) = true := by rw [bne_iff_ne]; exact hs
                    clear hpe
                    go_wp2_with (first
                      | ((with_reducible refine wpList_loadA (aggPc _ _ _ _ _) HL2.out ?_ ?_); rfl; go_frame)
                      | ((with_reducible refine wpList_loadA (aggPc _ _ _ _ _) HL1A.out ?_ ?_); rfl; go_frame)
                      | (go_at_call 74; refine heq.mono ?_; rintro e w3 ⟨rfl, hw⟩; obtain rfl := hw.symm; clear hw)
                      | fail)
                    go_ret2
                    exact ⟨HB02.out.trans ((HBI.out.trans (HB3.out.mono HBI.out.size)).mono HB02.out.size), by rw [HF.out]; rfl⟩
                  subst hs
                  by_cases ht : t2 = t
                  rotate_left
                  · have hxt : (t2 != t) = true := by rw [bne_iff_ne]; exact ht
                    clear hpe
                    go_wp2_with (first
                      | ((with_reducible refine wpList_loadA (aggPc _ _ _ _ _) HL2.out ?_ ?_); rfl; go_frame)
                      | ((with_reducible refine wpList_loadA (aggPc _ _ _ _ _) HL1A.out ?_ ?_); rfl; go_frame)
                      | (go_at_call 74; refine heq.mono ?_; rintro e w3 ⟨rfl, hw⟩; obtain rfl := hw.symm; clear hw)
                      | fail)
                    go_ret2
                    exact ⟨HB02.out.trans ((HBI.out.trans (HB3.out.mono HBI.out.size)).mono HB02.out.size), by rw [HF.out]; rfl⟩
                  subst ht
                  have hu : ¬ u2 = u := fun e => hpe (by rw [e])
                  have hdec : decide (u2 = u) = false := by simp [hu]
                  rw [hdec] at heq
                  clear hu hdec
                  clear hpe
                  go_wp2_with (first
                    | ((with_reducible refine wpList_loadA (aggPc _ _ _ _ _) HL2.out ?_ ?_); rfl; go_frame)
                    | ((with_reducible refine wpList_loadA (aggPc _ _ _ _ _) HL1A.out ?_ ?_); rfl; go_frame)
                    | (go_at_call 74; refine heq.mono ?_; rintro e w3 ⟨rfl, hw⟩; obtain rfl := hw.symm; clear hw)
                    | fail)
                  go_ret2
                  exact ⟨HB02.out.trans ((HBI.out.trans (HB3.out.mono HBI.out.size)).mono HB02.out.size), by rw [HF.out]; rfl⟩
              · obtain rfl : k = want.length := by omega
                have hfe : want = ps := by
                  rw [List.take_length, HLEN.out, List.take_length] at htk
                  exact htk
                rw [if_pos hfe] at HF
                have HBI := Lib.hid hbi
                have HT := Lib.hid htk
                clear hfe hbi htk
                have hOf : LOut en8 1 5 w.heap.size wr (.slice a5 n5 c5) (recOf ps) := (HO.out.below HB2.out).below HBI.out
                have HOF := Lib.hid hOf
                clear hOf
                go_wp2
                go_ret2
                exact ⟨HB02.out.trans (HBI.out.mono HB02.out.size), by rw [HF.out]; exact ⟨_, rfl, HOF.out⟩⟩
          · have hne : ((want.length : Int) != (ps.length : Int)) = true := by rw [bne_iff_ne]; omega
            rw [if_neg (fun e => hlen (by rw [e]))] at HF
            go_wp2
            go_ret2
            exact ⟨HB02.out, by rw [HF.out]; rfl⟩
end Go.Proofs.Ytbkblhoagfonjaa
