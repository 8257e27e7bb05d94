/- A piece of the ring is read, walked. -/
import Derived.Test.YtmakpbjknklpiaaGreatMgRpl12
import Derived.Test.YtmakpbjknklpiaaGreatMgRpl3
/- A transaction's record, walked. -/
namespace Go.Tn.Dk
open Go.Tn.Bt
theorem dat_len (l : List Nat) : (l.flatMap fun c => bitsN c 8).length = 8 * l.length := by
  induction l with
  | nil => rfl
  | cons x l ih => simp [bitsN_len, ih]; omega
theorem putBits_len (p : Pt) : (putBits p).length = 12 + 8 * p.2.length := by simp only [putBits, List.length_append, bitsN_len, dat_len]
theorem puts_len : ∀ (ps : List Pt), (∀ p ∈ ps, p.2.length = 128) → (ps.flatMap putBits).length = 1036 * ps.length
  | [], _ => rfl
  | p :: ps, h => by
    rw [List.flatMap_cons, List.length_append, putBits_len, h p List.mem_cons_self, puts_len ps fun q hq => h q (List.mem_cons_of_mem _ hq), List.length_cons]
    omega
theorem recB_len {ps : List Pt} (h : ∀ p ∈ ps, p.2.length = 128) : (recB ps).length = (8 + 1036 * ps.length + 7) / 8 := by
  simp only [recB, pack_len, List.length_append, bitsN_len, puts_len ps h]
end Go.Tn.Dk
namespace Go.Proofs.YtmakpbjknklpiaaGreat
open Go.RowKit Go.Tn Go.Tn.Bt Go.Tn.Lp Go.Tn.Dk
theorem WrAt.below {w w' : World} {a : Nat} {v : Value} {L : List Bool} (h : WrAt w a v L) (hb : Below w.heap.size w w') : WrAt w' a v L := ⟨(hb.block a (lt_of_block h.blk)).trans h.blk, h.bs.below hb⟩
theorem WrAt.own_lt {w : World} {a : Nat} {v : Value} {L : List Bool} (h : WrAt w a v L) {r : Nat} (hr : r = a ∨ v.ownBlock = some r) : r < w.heap.size := by
  rcases hr with rfl | hr
  · exact lt_of_block h.blk
  · exact h.bs.lt hr
/-- Puts whose numbers fit a record. -/
def fitP (p : Pt) : Prop := 0 ≤ p.1 ∧ p.1 < 4096 ∧ p.2.length = 128 ∧ ∀ x ∈ p.2, x < 256
set_option maxRecDepth 20000 in
set_option maxHeartbeats 4000000 in
theorem encode_any (w : World) (v : Value) (ps : List Pt) (h : PtsI w v ps) (hf : ∀ p ∈ ps, fitP p) (hn : ps.length ≤ 24) :
    Calls Tryz.prog 50 #[v] w fun e w' => ∃ v', e = .returned v' ∧ LOut en8 1 5 w.heap.size w' v' (recB ps) ∧ Below w.heap.size w w' := by
  obtain ⟨xs, hxs, hL, hD⟩ := h
  have hxl : xs.length = ps.length := by rw [← hxs]; simp
  obtain ⟨ao, cap, rfl, h1, h2, h3⟩ := hL
  rw [hxl] at h1 h3 ⊢
  unfold maxLen at h2
  have HXS := Lib.hid hxs
  have HD := Lib.hid hD
  have HXL := Lib.hid hxl
  have HFP := Lib.hid hf
  clear hxs hD hxl hf
  have h63 : (ps.length : Int) ≤ 24 := by omega
  have hnew := bNew_any w
  go_enter Tryz.func50, Tryz.ntmps50
  go_wp2_with fail
  refine hnew.mono ?_
  rintro e w2 ⟨rfl, hW2, hb2⟩
  have HB2 := Lib.hid hb2
  have hput := put_bits w2 w.heap.size _ _ hW2 ps.length 8 (by simp) (by decide) (by omega)
  clear hb2 hW2 hnew
  go_wp2_with fail
  refine hput.mono ?_
  rintro e w3 ⟨rfl, v3, hW3, hb3, -⟩
  have HW3 := Lib.hid hW3
  have HB3 := Lib.hid (HB2.out.trans hb3)
  clear hb3 hW3 hput
  go_wp2_with fail
  go_loopw [17] (fun iv wi => ∃ k : Nat, k ≤ ps.length ∧ iv = .int .i64 k ∧ Below w.heap.size w wi ∧ ∃ u, WrAt wi w.heap.size u (bitsN ps.length 8 ++ (ps.take k).flatMap putBits)) (fun iv _ => ps.length - (intOf iv).toNat)
  case atStart => exact ⟨0, Nat.zero_le _, rfl, HB3.out, v3, by simpa using HW3.out⟩
  case round =>
    obtain ⟨k, hk, rfl, hb, u, hW⟩ := hrel
    by_cases hkl : k < ps.length
    · have hkl' : (k : Int) < (ps.length : Int) := by omega
      obtain ⟨x, hx⟩ : ∃ x, xs[k]? = some x := ⟨_, List.getElem?_eq_getElem (by rw [HXL.out]; exact hkl)⟩
      obtain ⟨b, off, rfl, hbl, hcells⟩ := h3 (by omega)
      have hlies := (hcells k x hx).below' hb hbl
      have hpx : ps[k]? = some x.1 := by rw [← HXS.out, List.getElem?_map, hx]; rfl
      obtain ⟨da, dc, hdv, hd1, hd2, hd3⟩ := HD.out x (List.mem_of_getElem? hx)
      have hfit := HFP.out x.1 (List.mem_of_getElem? hpx)
      have hts := take_snoc hpx
      have hpl : ((ps.take k).flatMap putBits).length = 1036 * k := by
        rw [puts_len _ fun q hq => (HFP.out q (List.mem_of_mem_take hq)).2.2.1, List.length_take, Nat.min_eq_left hk]
      obtain ⟨⟨at_, dat⟩, ⟨a1, n1, c1⟩⟩ := x
      obtain ⟨rfl, rfl, rfl⟩ : a1 = da ∧ n1 = dat.length ∧ c1 = dc := by simpa [sv] using hdv
      obtain ⟨hf1, hf2, hf3, hf4⟩ := hfit
      simp only at hd1 hd2 hd3 hpx hf1 hf2 hf3 hf4
      obtain ⟨at_, rfl⟩ := Int.eq_ofNat_of_zero_le hf1
      unfold maxLen at hd2
      rw [hf3] at hd3
      have HLS : Hid (Lies wr b (off + k * 2) #[.int .i64 (at_ : Nat), .slice a1 128 c1]) := Lib.hid (by rw [← hf3]; exact hlies)
      have hb1 : Below wr.heap.size wr (wr.alloc (.cells #[.int .i64 (at_ : Nat), .slice a1 128 c1] 96)) := (Below.refl _ _).alloc (Nat.le_refl _) _
      have hbox : (wr.alloc (.cells #[.int .i64 (at_ : Nat), .slice a1 128 c1] 96)).heap[wr.heap.size]? = some (.cells #[.int .i64 (at_ : Nat), .slice a1 128 c1] 96 (0, 0)) := heap_alloc_at
      have hW1 := WrAt.below hW hb1
      have hbo : ∀ r, r = w.heap.size ∨ u.ownBlock = some r → ¬ r = wr.heap.size := fun r hr e => by have := WrAt.own_lt hW hr; omega
      have hput := put_bits _ w.heap.size _ _ hW1 at_ 12 (by rw [List.length_append, bitsN_len, hpl]; omega) (by decide) (by omega)
      have hat63 : (at_ : Int) < 4096 := by omega
      have HB1 := Lib.hid (hb.trans (hb1.mono hb.size))
      have HBOX := Lib.hid hbox
      have HBO := Lib.hid hbo
      have HPL := Lib.hid hpl
      have HTS := Lib.hid hts
      have HF4 := Lib.hid hf4
      have HF3 := Lib.hid hf3
      have HD3 := Lib.hid hd3
      clear hx hcells hlies hpx hdv hb hW hb1 hbox hW1 hbo hpl hts hf4 hf3 hd3 hf1 hd1
      go_upto_region 6 with (first
        | ((with_reducible refine wpList_loadA (aggPt _ _) HLS.out ?_ ?_); rfl; go_frame)
        | (go_at_call 81; refine hput.mono ?_; rintro e w5 ⟨rfl, v5, hW5, hb5, hm5⟩; have HW5 := Lib.hid hW5; have HB5 := Lib.hid (HB1.out.trans hb5); have HM5 := Lib.hid hm5; clear hW5 hb5 hm5)
        | fail)
      have hbox5 := HM5.out.mod.heap HBOX.out (fun h => HBO.out _ h rfl)
      have hwr5 : wr.heap.size < w5.heap.size := lt_of_block hbox5
      have q1 := cell_of (o := 1) hbox5 rfl
      clear hput hbox5
      go_wp2_with fail
      go_loopw [29] (fun jv wi => ∃ j : Nat, j ≤ 128 ∧ jv = .int .i64 j ∧ Below w.heap.size w wi ∧ ∃ u, WrAt wi w.heap.size u ((bitsN ps.length 8 ++ (ps.take k).flatMap putBits ++ bitsN at_ 12) ++ (dat.take j).flatMap fun c => bitsN c 8)) (fun jv _ => 128 - (intOf jv).toNat)
      case atStart => exact ⟨0, Nat.zero_le _, rfl, HB5.out, v5, by simpa using HW5.out⟩
      case round =>
        obtain ⟨j, hj, rfl, hb6, u6, hW6⟩ := hrel
        by_cases hjl : j < 128
        · have hjl' : (j : Int) < 128 := by omega
          obtain ⟨c, hc⟩ : ∃ c, dat[j]? = some c := ⟨_, List.getElem?_eq_getElem (by rw [HF3.out]; exact hjl)⟩
          have hc8 := HF4.out c (List.mem_of_getElem? hc)
          obtain ⟨bd, od, rfl, hbd, hcd⟩ := HD3.out (by decide)
          have hcell := (hcd j c hc).below' hb6 hbd 0 (by simp)
          have hcj : wr.cell? ⟨bd, od + j, none⟩ = some (.int .u8 (c : Nat)) := by
            rw [Nat.mul_one, Nat.add_zero] at hcell
            exact hcell
          have hdt : (dat.take (j + 1)).flatMap (fun c => bitsN c 8) = (dat.take j).flatMap (fun c => bitsN c 8) ++ bitsN c 8 := by
            rw [List.take_add_one, hc]
            simp
          have hput := put_bits wr w.heap.size _ _ hW6 c 8 (by simp only [List.length_append, bitsN_len, dat_len, HPL.out, List.length_take]; omega) (by decide) (by omega)
          rw [List.append_assoc, ← hdt] at hput
          have hc8' : (c : Int) < 256 := by omega
          have HB6 := Lib.hid hb6
          clear hcell hc hcd hdt hb6 hW6
          go_wp2_with (first
            | (go_at_call 81; refine hput.mono ?_; rintro e w7 ⟨rfl, v7, hW7, hb7, hm7⟩; have HW7 := Lib.hid hW7; have HB7 := Lib.hid (HB6.out.trans hb7); clear hW7 hb7 hm7)
            | fail)
          go_roundw
          case rel => exact ⟨j + 1, by omega, by go_num, HB7.out, v7, HW7.out⟩
          case measure => simp [intOf]; omega
        · obtain rfl : j = 128 := by omega
          have hall : (dat.take 128).flatMap (fun c => bitsN c 8) = dat.flatMap fun c => bitsN c 8 := by rw [List.take_of_length_le (by rw [HF3.out]; exact Nat.le_refl _)]
          rw [hall] at hW6
          have hnx : bitsN ps.length 8 ++ (ps.take (k + 1)).flatMap putBits = (bitsN ps.length 8 ++ (ps.take k).flatMap putBits ++ bitsN at_ 12) ++ dat.flatMap fun c => bitsN c 8 := by
            rw [HTS.out, List.flatMap_append, List.flatMap_singleton]
            simp [putBits]
          rw [← hnx] at hW6
          have HW6 := Lib.hid hW6
          have HB6 := Lib.hid hb6
          clear hall hnx hW6 hb6
          go_wp2
          go_roundw
          case rel => exact ⟨k + 1, by omega, by go_num, HB6.out, u6, HW6.out⟩
          case measure => simp [intOf]; omega
    · obtain rfl : k = ps.length := by omega
      rw [List.take_length] at hW
      have hlen : (bitsN ps.length 8 ++ ps.flatMap putBits).length ≤ 400000 := by
        rw [List.length_append, bitsN_len, puts_len ps fun q hq => (HFP.out q hq).2.2.1]
        omega
      have hdone := done_any wr w.heap.size _ _ hW hlen
      have HB := Lib.hid hb
      clear hb hW hlen
      go_wp2_with fail
      refine hdone.mono ?_
      rintro e w5 ⟨v5, rfl, hO5, hb5⟩
      have hO5' : LOut en8 1 5 w.heap.size w5 v5 (recB ps) := hO5.mono HB.out.size
      have HO5 := Lib.hid hO5'
      have HB5 := Lib.hid (HB.out.trans (hb5.mono HB.out.size))
      obtain ⟨a5, n5, c5, rfl⟩ := hO5.shape
      clear hO5 hO5' hb5 hdone
      go_wp2
      go_ret
      exact ⟨_, rfl, HO5.out, HB5.out⟩
end Go.Proofs.YtmakpbjknklpiaaGreat

/- Need; the newest epoch; walked. -/
namespace Go.Tn.Dk
open Go.Tn.Bt Go.Tn.Lp
end Go.Tn.Dk
namespace Go.Proofs.YtmakpbjknklpiaaGreat
open Go.RowKit Go.Tn Go.Tn.Bt Go.Tn.Lp Go.Tn.Dk
/-- The greatest epoch at an end of the first sectors. -/
def newestB (d : Dsk) : Nat → Nat
  | 0 => 0
  | k + 1 => max (max (newestB d k) (endsB (d.get k)).1) (endsB (d.get k)).2
theorem fit_of_trans {ps : List Pt} {homes : Nat} (h : transB ps homes = true) (hh : homes ≤ 4096) (hb : ∀ p ∈ ps, ∀ x ∈ p.2, x < 256) : ∀ p ∈ ps, fitP p := fun p hp => by
  obtain ⟨h1, h2, h3⟩ := ((transB_iff ps homes).1 h).2.2.1 p hp
  exact ⟨h1, by omega, h3, hb p hp⟩
theorem ends_lt {b : List Nat} (hl : b.length = 128) (hb : ∀ x ∈ b, x < 256) : (endsB b).1 < 16777216 ∧ (endsB b).2 < 16777216 := by
  have hN := numOf_lt 8 (b.take 8) (by rw [List.length_take]; omega) fun x hx => hb x (List.mem_of_mem_take hx)
  have hM := numOf_lt 8 (b.drop 120) (by rw [List.length_drop]; omega) fun x hx => hb x (List.mem_of_mem_drop hx)
  unfold endsB
  simp only
  omega
theorem newest_lt {d : Dsk} (h : d.ok) : ∀ k, k ≤ d.L.length → newestB d k < 16777216
  | 0, _ => by simp [newestB]
  | k + 1, hk => by
    have h1 := newest_lt h k (by omega)
    have h2 := h.get (i := k) (by omega)
    have h3 := ends_lt h2.1 h2.2
    simp only [newestB]
    omega
set_option maxRecDepth 20000 in
theorem newest_any {w : World} {F FD : Nat → Prop} {g p : Nat} {l : Lg} {d : Dsk} (h : LAt w F g p l) (hd : DAt w FD p d) (hn : l.n + 3 ≤ d.L.length) :
    Calls Tryz.prog 35 #[.pointer (some ⟨g, 0, none⟩)] w fun e w' => e = .returned (.tuple #[.int .u64 (newestB d (2 + l.n) : Nat), .int .i64 0]) ∧ Below w.heap.size w w' := by
  have hhi := hd.ok.hi
  have hlt := h.lt g h.fg
  obtain ⟨m, L, clk, hb, -⟩ := h.ex
  have c1 := cell_of (o := 1) hb rfl
  have HBLK := Lib.hid (cell_of (o := 0) hb rfl)
  have HD := Lib.hid hd
  have hokd := hd.ok
  have HOK := Lib.hid hokd
  obtain ⟨n, hne⟩ : ∃ n, 2 + l.n = n := ⟨_, rfl⟩
  have hs : (2 : Int) + (l.n : Nat) = (n : Nat) := by omega
  have hnl : n ≤ d.L.length := by omega
  rw [hne]
  have hn63 : (n : Int) ≤ 4096 := by omega
  have hl63 : ((l.n : Nat) : Int) ≤ 4096 := by omega
  clear h hb hd hne hokd
  go_enter Tryz.func35, Tryz.ntmps35
  go_wp2_with fail
  clear hs c1
  go_loopw [4, 15] (fun ov iv wi => ∃ k : Nat, k ≤ n ∧ iv = .int .i64 k ∧ ov = .int .u64 (newestB d k : Nat) ∧ Below w.heap.size w wi) (fun _ iv _ => n - (intOf iv).toNat)
  case atStart => exact ⟨0, Nat.zero_le _, rfl, rfl, Below.refl _ _⟩
  case round =>
    obtain ⟨k, hk, rfl, rfl, hb⟩ := hrel
    by_cases hkl : k < n
    · have hkl' : (k : Int) < (n : Int) := by omega
      have c0 : wr.cell? ⟨g, 0, none⟩ = some (.pointer (some ⟨p, 0, none⟩)) := (hb.cell (p := ⟨g, 0, none⟩) hlt).trans HBLK.out
      have hrd := dread_any (HD.out.below hb) k (by omega)
      have hsec := HOK.out.get (i := k) (by omega)
      have hmx : newestB d (k + 1) = max (max (newestB d k) (endsB (d.get k)).1) (endsB (d.get k)).2 := rfl
      have hl1 := newest_lt HOK.out k (by omega)
      have hl2 := ends_lt hsec.1 hsec.2
      generalize d.get k = bs at *
      obtain ⟨x1, hx1⟩ : ∃ x, (endsB bs).1 = x := ⟨_, rfl⟩
      obtain ⟨x2, hx2⟩ : ∃ x, (endsB bs).2 = x := ⟨_, rfl⟩
      have hends := fun w v h => ends_any w v bs h hsec.2 hsec.1
      simp only [hx1, hx2] at hmx hl2 hends
      have HB := Lib.hid hb
      have HMX := Lib.hid hmx
      have HLEN := Lib.hid hsec.1
      generalize newestB d k = y at *
      clear hb hmx hsec hx1 hx2
      go_wp2_with fail
      refine hrd.mono ?_
      rintro e w3 ⟨v, rfl, hv, hb3⟩
      have hends := hends w3 v hv.sl
      obtain ⟨va, vc, rfl, -⟩ := hv.sl
      have HB3 := Lib.hid (HB.out.trans (hb3.mono HB.out.size))
      clear hv hb3 hrd
      go_wp2_with fail
      refine hends.mono ?_
      rintro e w4 ⟨rfl, hb4⟩
      have HB4 := Lib.hid (HB3.out.trans (hb4.mono HB3.out.size))
      clear hb4 hends
      go_wp2_with fail
      exact ⟨⟨k + 1, by omega, by go_num, by rw [HMX.out]; exact congrArg (Value.int .u64) (by split <;> split <;> omega), HB4.out⟩, by simp [intOf]; omega⟩
    · obtain rfl : k = n := by omega
      have HB := Lib.hid hb
      clear hb
      go_wp2
      go_ret2
      exact ⟨rfl, HB.out⟩
end Go.Proofs.YtmakpbjknklpiaaGreat

/- A piece of the ring is read, walked. -/
namespace Go.Tn
open Go.RowKit
/-- A step that answers nothing and keeps what is read; guarded or not. -/
theorem g_skipS {P : Program} {ops : Array Oper} {Q : Exit → Act → World → Prop} {S : World → Prop} {i : Nat} {r : List (Nat × Nat)} {a : Act} {w : World} {o : Oper} (ho : ops[i]? = some o) (hw : Region.wanted o (yielded ops a.tmps) = true) {w' : World} (hr : (execOp a.eval o).run P w = .ok .skip w') (hS : S w') (h : wpG P ops Q S r (a.put o.dst undef) w') : wpG P ops Q S ((i, 2) :: r) a w := by
  refine ⟨o, ho, .inr ⟨hw, ?_⟩⟩
  simp only [Oper.wp, hr, Oper.upon]
  exact ⟨hS, h⟩
end Go.Tn
namespace Go.Tn.Dk
open Go.Tn.Bt Go.Tn.Lp
/-- The piece of a count, if it is there. -/
def pieceB (d : Dsk) (n c : Nat) : Option Pc := match unsealB (d.get (2 + c % n)) with
  | some q => if q.ct = c then some q else none
  | none => none
end Go.Tn.Dk
namespace Go.Proofs.YtmakpbjknklpiaaGreat
open Go.RowKit Go.Tn Go.Tn.Bt Go.Tn.Lp Go.Tn.Dk
theorem onePc (ep ct : Int) (fi la : Bool) (ao : Option Addr) (n c : Nat) : (#[.int .u64 ep, .int .u64 ct, .bool fi, .bool la, .slice ao n c] : Array Value).all (·.oneCell') = true := by simp [Value.oneCell']
/-- What piece answers. -/
def PieceR (B : Nat) (w' : World) (r : Option Pc) (e : Ending) : Prop := match r with
  | some q => ∃ v', e = .returned (.tuple #[.agg (pcCs q v'), .bool true]) ∧ LOut en8 1 5 B w' v' q.da
  | none => ∃ (q : Pc) (a : Option Addr) (n c : Nat), e = .returned (.tuple #[.agg (pcCs q (.slice a n c)), .bool false])
set_option maxRecDepth 20000 in
set_option maxHeartbeats 4000000 in
theorem piece_any {w : World} {F FD : Nat → Prop} {g p : Nat} {l : Lg} {d : Dsk} (h : LAt w F g p l) (hd : DAt w FD p d) (hn2 : 2 ≤ l.n) (hn : l.n + 3 ≤ d.L.length) (c : Nat) (hc : c < 2 ^ 63) :
    Calls Tryz.prog 103 #[.pointer (some ⟨g, 0, none⟩), .int .u64 c] w fun e w' => Below w.heap.size w w' ∧ PieceR w.heap.size w' (pieceB d l.n c) e := by
  have hhi := hd.ok.hi
  have hlt := h.lt g h.fg
  have hb0 : Below w.heap.size w (w.alloc (.cells #[.int .u64 0, .int .u64 0, .bool false, .bool false, .slice none 0 0] 103)) := (Below.refl _ _).alloc (Nat.le_refl _) _
  have hz0 : (w.alloc (.cells #[.int .u64 0, .int .u64 0, .bool false, .bool false, .slice none 0 0] 103)).heap.size = w.heap.size + 1 := by simp
  have hh0 : (w.alloc (.cells #[.int .u64 0, .int .u64 0, .bool false, .bool false, .slice none 0 0] 103)).heap[w.heap.size]? = some (.cells #[.int .u64 0, .int .u64 0, .bool false, .bool false, .slice none 0 0] 103 (0, 0)) := heap_alloc_at
  have hix : 2 + c % l.n < d.L.length := by have := Nat.mod_lt c (show 0 < l.n by omega); omega
  have hpl := gplace_any ((h.below hb0).below (Below.refl _ _).drew) hn2 (by omega) c hc
  have hrd := dread_any ((hd.below hb0).below (Below.refl _ _).drew) (2 + c % l.n) hix
  have hsec := hd.ok.get hix
  obtain ⟨m, L, clk, hb, -⟩ := h.ex
  have hS : (w.alloc (.cells #[.int .u64 0, .int .u64 0, .bool false, .bool false, .slice none 0 0] 103)).drew.cell? ⟨g, 0, none⟩ = some (.pointer (some ⟨p, 0, none⟩)) := (hb0.cell (p := ⟨g, 0, none⟩) hlt).trans (cell_of (o := 0) hb rfl)
  have hE : pieceB d l.n c = match unsealB (d.get (2 + c % l.n)) with | some q => if q.ct = c then some q else none | none => none := rfl
  have HE := Lib.hid hE
  have HB0 := Lib.hid hb0
  have HH0 := Lib.hid hh0
  have HZ0 := Lib.hid hz0
  have HSEC := Lib.hid hsec
  generalize d.get (2 + c % l.n) = bs at *
  generalize 2 + c % l.n = ix at *
  generalize pieceB d l.n c = R at *
  have hc63 : (c : Int) < 9223372036854775808 := by omega
  clear hb0 hh0 hz0 h hd hb hE hsec hix
  go_enter Tryz.func103, Tryz.ntmps103
  go_upto_region 1 with fail
  generalize w.alloc (.cells #[.int .u64 0, .int .u64 0, .bool false, .bool false, .slice none 0 0] 103) = w0 at *
  refine wp_region_x (fun w' => w'.cell? ⟨g, 0, none⟩ = some (.pointer (some ⟨p, 0, none⟩))) [(0, 1), (1, 1), (2, 1), (3, 0), (4, 1), (5, 1), (6, 2), (7, 2), (8, 1), (9, 1), (10, 1), (11, 1), (12, 1)] (by kernel_rfl) (by kernel_rfl) (by intro d v c a w h; cases d <;> exact h) ?_
  iterate 3 (refine x_take rfl (fun K hK => ?_); go_simp; refine hK _ ?_; clear hK K)
  refine x_read rfl hS (fun w' h => exec_load1 ⟨⟨_, Tryz.underlying24, rfl⟩⟩ rfl h) ?_
  iterate 2 (refine x_take rfl (fun K hK => ?_); go_simp; refine hK _ ?_; clear hK K)
  refine x_show' rfl (fun K hK => ?_)
  go_simp
  refine hpl.mono ?_
  rintro e w2 ⟨rfl, hw⟩
  obtain rfl := hw.symm
  refine hK _ _ hS ?_
  clear hK K hw
  refine x_show' rfl (fun K hK => ?_)
  go_simp
  refine hrd.mono ?_
  rintro e w2 ⟨v, rfl, hv, hb2⟩
  have hu := unseal_any w2 v bs hv.sl HSEC.out.2
  obtain ⟨va, vc, rfl, -⟩ := hv.sl
  have hz0' : w0.drew.heap.size = w.heap.size + 1 := HZ0.out
  rw [hz0'] at hb2
  have HB2 : Hid (Below (w.heap.size + 1) w0 w2) := Lib.hid ((Below.refl _ _).drew.trans hb2)
  refine hK _ _ ((hb2.cell (p := ⟨g, 0, none⟩) (by show g < _; omega)).trans hS) ?_
  clear hK K hv hb2 hS hrd hpl hz0'
  iterate 5 (refine x_take rfl (fun K hK => ?_); go_simp; refine hK _ ?_; clear hK K)
  refine x_nil ?_
  go_wp2_with fail
  refine hu.mono ?_
  rintro e w3 ⟨hb3, hR⟩
  have HB3 : Hid (Below (w.heap.size + 1) w0 w3) := Lib.hid (HB2.out.trans (hb3.mono (by have := HB2.out.size; rw [HZ0.out] at this; omega)))
  have hz3 : w.heap.size + 1 ≤ w3.heap.size := by have := HB3.out.size; rw [HZ0.out] at this; exact this
  have hz2 : w.heap.size + 1 ≤ w2.heap.size := by have := HB2.out.size; rw [HZ0.out] at this; exact this
  clear hb3 hu
  -- what follows, the piece in hand
  have hq : ∀ (ep ct : Nat) (fi la : Bool) (a4 : Option Addr) (n4 c4 : Nat), (w3.alloc (.cells #[.int .u64 (ep : Nat), .int .u64 (ct : Nat), .bool fi, .bool la, .slice a4 n4 c4] 103)).drew.heap[w.heap.size]? = some (.cells #[.int .u64 0, .int .u64 0, .bool false, .bool false, .slice none 0 0] 103 (0, 0)) := fun ep ct fi la a4 n4 c4 => heap_alloc_of ((HB3.out.block w.heap.size (by omega)).trans HH0.out)
  have HQ := Lib.hid hq
  clear hq
  cases hcu : unsealB bs with
  | none =>
    have HE2 : Hid (R = none) := Lib.hid (by rw [HE.out, hcu])
    rw [hcu] at hR
    simp only at hR
    subst hR
    clear hcu
    have hbox : (w3.alloc (.cells #[.int .u64 0, .int .u64 0, .bool false, .bool false, .slice none 0 0] 103)).drew.heap[w3.heap.size]? = some (.cells #[.int .u64 0, .int .u64 0, .bool false, .bool false, .slice none 0 0] 103 (0, 0)) := heap_alloc_at
    have hS := lies_of hbox
    obtain ⟨w9, hr9, hh9, hm9⟩ := exec_storeB (P := Tryz.prog) (ρ := fun _ => undef) (ty := 0) (pos := "") (after := #[]) (x := .tmp 0) (y := .tmp 0) (aggPc 0 0 false false (.slice none 0 0)) (HQ.out 0 0 false false none 0 0) rfl (onePc _ _ _ _ _ _ _)
    have hB9 : Below w.heap.size w w9 := HB0.out.trans (((HB3.out.mono (Nat.le_succ _)).alloc (by omega) _).drew.trans (hm9.below (by simp; omega) fun x hx e => by omega))
    go_upto_region 5 with fail
    refine wp_region_g (fun w' => Lies w' w3.heap.size 0 #[.int .u64 0, .int .u64 0, .bool false, .bool false, .slice none 0 0]) [(0, 0), (1, 1), (2, 1), (3, 1), (4, 1), (5, 0), (6, 1), (7, 1), (8, 1), (9, 2), (10, 1)] (by kernel_rfl) (by kernel_rfl) (by intro d v c a w h; cases d <;> exact h) ?_
    refine g_read rfl rfl hS (fun w' h => exec_loadA (aggPc _ _ _ _ _) rfl h) ?_
    iterate 3 (refine g_take rfl rfl (fun K hK => ?_); go_simp; refine hK _ ?_; clear hK K)
    iterate 4 (refine g_offK rfl rfl (fun _ => hS) (fun K hK => ?_); go_simp; refine hK _ ?_; clear hK K)
    iterate 1 (refine g_take rfl rfl (fun K hK => ?_); go_simp; refine hK _ ?_; clear hK K)
    refine g_skipS rfl rfl (hr9 _ _ _ _ _ _ _ _ rfl rfl) (lies_mod hS hm9 (fun e => by have e : w3.heap.size = w.heap.size := e; omega)) ?_
    iterate 1 (refine g_take rfl rfl (fun K hK => ?_); go_simp; refine hK _ ?_; clear hK K)
    refine g_nil ?_
    have HH9 := Lib.hid hh9
    have HB9 := Lib.hid hB9
    clear hbox hS hr9 hh9 hm9 hB9
    go_wp2
    refine bodyPost_ret (results_cellT rfl _ rfl (aggPc 0 0 false false (.slice none 0 0)) (lies_of HH9.out)) rfl ?_
    rw [HE2.out]
    exact ⟨HB9.out, ⟨0, 0, false, false, []⟩, none, 0, 0, rfl⟩
  | some q =>
    have hqo := (unsealB_ok HSEC.out.2 hcu).1
    have HE2 : Hid (R = if q.ct = c then some q else none) := Lib.hid (by rw [HE.out, hcu])
    rw [hcu] at hR
    simp only at hR
    obtain ⟨v4, rfl, hO4⟩ := hR
    obtain ⟨ep, ct, fi, la, da⟩ := q
    obtain ⟨a4, n4, c4, rfl⟩ := hO4.shape
    simp only [pcCs] at HE2 ⊢
    have hbox : (w3.alloc (.cells #[.int .u64 (ep : Nat), .int .u64 (ct : Nat), .bool fi, .bool la, .slice a4 n4 c4] 103)).drew.heap[w3.heap.size]? = some (.cells #[.int .u64 (ep : Nat), .int .u64 (ct : Nat), .bool fi, .bool la, .slice a4 n4 c4] 103 (0, 0)) := heap_alloc_at
    have hS := lies_of hbox
    obtain ⟨w9, hr9, hh9, hm9⟩ := exec_storeB (P := Tryz.prog) (ρ := fun _ => undef) (ty := 0) (pos := "") (after := #[]) (x := .tmp 0) (y := .tmp 0) (aggPc (ep : Nat) (ct : Nat) fi la (.slice a4 n4 c4)) (HQ.out ep ct fi la a4 n4 c4) rfl (onePc _ _ _ _ _ _ _)
    have hB9 : Below w.heap.size w w9 := HB0.out.trans (((HB3.out.mono (Nat.le_succ _)).alloc (by omega) _).drew.trans (hm9.below (by simp; omega) fun x hx e => by omega))
    have hO9 : LOut en8 1 5 w.heap.size w9 (.slice a4 n4 c4) da := by
      have h1 := hO4.below (((Below.refl w3.heap.size w3).alloc (Nat.le_refl _) (.cells #[.int .u64 (ep : Nat), .int .u64 (ct : Nat), .bool fi, .bool la, .slice a4 n4 c4] 103)).drew)
      exact (h1.kept hm9.size fun r hr => hm9.block r (h1.lt hr) fun e => by
        have e : r = w.heap.size := e
        have := hO4.lo r hr
        omega).mono (by omega)
    obtain ⟨t, ht⟩ : ∃ t, decide (ct = c) = t := ⟨_, rfl⟩
    have hteq : ((ct : Int) == (c : Int)) = t := by rw [← ht, Bool.eq_iff_iff, beq_iff_eq, decide_eq_true_eq]; omega
    have HT := Lib.hid ht
    clear hcu ht hO4 hqo
    go_upto_region 5 with fail
    refine wp_region_g (fun w' => Lies w' w3.heap.size 0 #[.int .u64 (ep : Nat), .int .u64 (ct : Nat), .bool fi, .bool la, .slice a4 n4 c4]) [(0, 0), (1, 1), (2, 1), (3, 1), (4, 1), (5, 0), (6, 1), (7, 1), (8, 1), (9, 2), (10, 1)] (by kernel_rfl) (by kernel_rfl) (by intro d v c a w h; cases d <;> exact h) ?_
    refine g_read rfl rfl hS (fun w' h => exec_loadA (aggPc _ _ _ _ _) rfl h) ?_
    iterate 4 (refine g_take rfl rfl (fun K hK => ?_); go_simp; refine hK _ ?_; clear hK K)
    refine g_read rfl rfl hS (fun w' h => exec_load1 ⟨⟨_, Tryz.underlying49, rfl⟩⟩ rfl (h 1 (by simp))) ?_
    iterate 3 (refine g_take rfl rfl (fun K hK => ?_); go_simp; refine hK _ ?_; clear hK K)
    refine g_skipS rfl rfl (hr9 _ _ _ _ _ _ _ _ rfl rfl) (lies_mod hS hm9 (fun e => by have e : w3.heap.size = w.heap.size := e; omega)) ?_
    iterate 1 (refine g_take rfl rfl (fun K hK => ?_); go_simp; refine hK _ ?_; clear hK K)
    refine g_nil ?_
    have HH9 := Lib.hid hh9
    have HB9 := Lib.hid hB9
    have HO9 := Lib.hid hO9
    clear hbox hS hr9 hh9 hm9 hB9 hO9
    go_wp2
    refine bodyPost_ret (results_cellT rfl _ rfl (aggPc _ _ _ _ _) (lies_of HH9.out)) rfl ?_
    rw [HE2.out]
    by_cases hcc : ct = c
    · have hT : t = true := by rw [← HT.out]; simp [hcc]
      rw [if_pos hcc, hT]
      exact ⟨HB9.out, .slice a4 n4 c4, rfl, HO9.out⟩
    · have hT : t = false := by rw [← HT.out]; simp [hcc]
      rw [if_neg hcc, hT]
      exact ⟨HB9.out, ⟨ep, ct, fi, la, da⟩, a4, n4, c4, rfl⟩
end Go.Proofs.YtmakpbjknklpiaaGreat
