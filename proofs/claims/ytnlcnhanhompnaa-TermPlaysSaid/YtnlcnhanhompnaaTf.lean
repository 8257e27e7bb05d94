/- The walk of the law TermPlays. -/
import Derived.Test.YtnlcnhanhompnaaTe
import Derived.Test.YtnlcnhanhompnaaSa
namespace Go.Proofs.Ytnlcnhanhompnaa
open Go.RowKit Go.Tn

/-- A list of calls that came in: kind, client, time. -/
def DosIn (w : World) (ao : Option Addr) (len : Nat) (ks cs : Nat → Int) (ts : Nat → Nat) : Prop := 0 < len → ∃ b off, ao = some ⟨b, off, none⟩ ∧ b < w.heap.size ∧ ∀ i, i < len → w.cell? ⟨b, off + i * 3, none⟩ = some (.int .i64 (ks i)) ∧ w.cell? ⟨b, off + i * 3 + 1, none⟩ = some (.int .i64 (cs i)) ∧ w.cell? ⟨b, off + i * 3 + 2, none⟩ = some (.int .u64 (ts i))

theorem ne_blk {w : World} {g h : Nat} {c d : Array Value} {t u : TypeId} {fr fr' : Nat × Nat} (hg : w.heap[g]? = some (.cells c t fr)) (hh : w.heap[h]? = some (.cells d u fr')) (hne : t ≠ u) : g ≠ h := by
  rintro rfl
  rw [hg] at hh
  cases hh
  exact hne rfl

/-- Both leases and both watches, side by side. -/
structure Std (B : Nat) (w0 w : World) (ba xb b m yb t sp : Nat) (v : Value) (ss : List Nat) (L : Ents Int) (clk : Nat) (C : Array Value) (H : Heard) (i : Nat) : Prop where
  le : LeaseAt w ba t (latest t ss)
  rl : RLeaseAt B w xb t v ss
  wa : WatchAt w b m sp L clk H
  rw_ : RWatchAt w yb sp C H
  len : ss.length ≤ i
  bel : Below B w0 w
  l1 : B ≤ ba
  l2 : B ≤ b
  l3 : B ≤ m
  l4 : B ≤ yb
def Stood (B : Nat) (w0 w : World) (ba xb b m yb t sp i : Nat) (H : Heard) (ss : List Nat) : Prop := ∃ v L clk C, Std B w0 w ba xb b m yb t sp v ss L clk C H i

section
variable {B : Nat} {w0 w w' : World} {ba xb b m yb t sp : Nat} {v : Value} {ss : List Nat} {L : Ents Int} {clk : Nat} {C : Array Value} {H : Heard} {i : Nat}
theorem Std.nes (h : Std B w0 w ba xb b m yb t sp v ss L clk C H i) : (ba ≠ xb ∧ ba ≠ b ∧ ba ≠ m ∧ ba ≠ yb) ∧ (xb ≠ b ∧ xb ≠ m ∧ xb ≠ yb) ∧ (b ≠ m ∧ b ≠ yb) ∧ m ≠ yb ∧ v.ownBlock ≠ some ba ∧ v.ownBlock ≠ some b ∧ v.ownBlock ≠ some m ∧ v.ownBlock ≠ some yb ∧ v.ownBlock ≠ some xb := by
  have a1 := h.le.blk
  have a2 := h.rl.blk
  have a3 := h.wa.blk
  have a4 := h.wa.map
  have a5 := h.rw_.blk
  have nm : ∀ {g : Nat} {c : Array Value} {u : TypeId} {fr : Nat × Nat}, w.heap[g]? = some (.cells c u fr) → g ≠ m := fun hg e => by
    rw [e, a4] at hg
    cases hg
  exact ⟨⟨ne_blk a1 a2 (by decide), ne_blk a1 a3 (by decide), nm a1, ne_blk a1 a5 (by decide)⟩, ⟨ne_blk a2 a3 (by decide), nm a2, ne_blk a2 a5 (by decide)⟩, ⟨nm a3, ne_blk a3 a5 (by decide)⟩, (nm a5).symm, h.rl.ty a1 (by decide), h.rl.ty a3 (by decide), h.rl.tm a4, h.rl.ty a5 (by decide), fun e => (h.rl.lo xb e).2 rfl⟩
theorem Std.next (h : Std B w0 w ba xb b m yb t sp v ss L clk C H i) (hb : Below w.heap.size w w') {j : Nat} (hj : i ≤ j) : Std B w0 w' ba xb b m yb t sp v ss L clk C H j := by
  have hm := Mod.of_below hb
  refine ⟨h.le.mod hm (by have := h.le.lt; omega), h.rl.mod hm (by have := lt_of_block h.rl.blk; omega) (fun r hr => ?_), h.wa.mod hm (by have := lt_of_block h.wa.blk; omega) (by have := lt_of_block h.wa.map; omega), h.rw_.mod hm (by have := lt_of_block h.rw_.blk; omega), by have := h.len; omega, h.bel.trans (hb.mono ?_), h.l1, h.l2, h.l3, h.l4⟩
  · rcases h.rl.own.form with ⟨rfl, _⟩ | ⟨g, cap, cur, rfl, _, _, hg, _⟩
    · cases hr
    · cases hr
      have := lt_of_block hg
      show ¬ w.heap.size ≤ g
      omega
  · exact Nat.le_trans h.l1 (Nat.le_of_lt h.le.lt)
theorem Std.drewN (h : Std B w0 w ba xb b m yb t sp v ss L clk C H i) (n : Nat) : Std B w0 (w.drewN n) ba xb b m yb t sp v ss L clk C H i := h.next (below_drewN (Below.refl _ _) n) (Nat.le_refl _)
theorem Std.lease (h : Std B w0 w ba xb b m yb t sp v ss L clk C H i) {w1 : World} (hm : Mod (fun x => x = ba) w w1) :
    RLeaseAt B w1 xb t v ss ∧ WatchAt w1 b m sp L clk H ∧ RWatchAt w1 yb sp C H ∧ Below B w0 w1 := by
  obtain ⟨⟨n1, n2, n3, n4⟩, _, _, _, n5, _⟩ := h.nes
  exact ⟨h.rl.mod hm (fun e => n1 e.symm) (fun r hr e => n5 (by rw [hr]; exact congrArg some e)), h.wa.mod hm (fun e => n2 e.symm) (fun e => n3 e.symm), h.rw_.mod hm (fun e => n4 e.symm), h.bel.trans (hm.below (Nat.le_trans h.l1 (Nat.le_of_lt h.le.lt)) (fun x hx e => by have := h.l1; omega))⟩
theorem Std.ack (h : Std B w0 w ba xb b m yb t sp v ss L clk C H i) {w1 w2 : World} {s : Nat} {v' : Value} (hm : Mod (fun x => x = ba) w w1) (hl : LeaseAt w1 ba t (max (latest t ss) (s + t))) (hm2 : Mod (fun r => r = xb ∨ v.ownBlock = some r) w1 w2) (hr : RLeaseAt B w2 xb t v' (ss ++ [s])) :
    Std B w0 w2 ba xb b m yb t sp v' (ss ++ [s]) L clk C H (i + 1) := by
  obtain ⟨⟨n1, n2, n3, n4⟩, ⟨n5, n6, n7⟩, _, _, n8, n9, n10, n11, n12⟩ := h.nes
  obtain ⟨h1, h2, h3, h4⟩ := h.lease hm
  refine ⟨?_, hr, h2.mod hm2 (fun e => e.elim (fun e => n5 e.symm) n9) (fun e => e.elim (fun e => n6 e.symm) n10), h3.mod hm2 (fun e => e.elim (fun e => n7 e.symm) n11), by have := h.len; simp; omega, h4.trans (hm2.below ?_ (fun x hx e => ?_)), h.l1, h.l2, h.l3, h.l4⟩
  · rw [latest_snoc]
    exact hl.mod hm2 (fun e => e.elim n1 n8)
  · exact Nat.le_trans h.l1 (Nat.le_of_lt hl.lt)
  · rcases e with e | e
    · have := h1.lb; omega
    · have := (h1.lo x e).1; omega
theorem Std.lapse (h : Std B w0 w ba xb b m yb t sp v ss L clk C H i) {w1 w2 : World} (hm : Mod (fun x => x = ba) w w1) (hl : LeaseAt w1 ba t 0) (hw : w2 = w1.setCell ⟨xb, 1, none⟩ (.slice none 0 0)) :
    Std B w0 w2 ba xb b m yb t sp (.slice none 0 0) [] L clk C H (i + 1) := by
  subst hw
  obtain ⟨⟨n1, n2, n3, n4⟩, ⟨n5, n6, n7⟩, _⟩ := h.nes
  obtain ⟨h1, h2, h3, h4⟩ := h.lease hm
  have hm2 : Mod (fun r => r = xb) w1 (w1.setCell ⟨xb, 1, none⟩ (.slice none 0 0)) := (Mod.refl _ _).setCell _ _ (fun _ => rfl)
  refine ⟨hl.mod hm2 n1, ⟨(heap_setCell_at h1.blk).trans rfl, ⟨rfl, .inl ⟨rfl, rfl⟩⟩, (fun r hr => by cases hr), h1.lb, h1.t1, h1.t2, (fun s hs => by cases hs), by simp⟩, h2.mod hm2 (fun e => n5 e.symm) (fun e => n6 e.symm), h3.mod hm2 (fun e => n7 e.symm), by simp, h4.trans (hm2.below ?_ (fun x hx e => ?_)), h.l1, h.l2, h.l3, h.l4⟩
  · exact Nat.le_trans h.l1 (Nat.le_of_lt hl.lt)
  · have := h1.lb; omega
theorem Std.hear (h : Std B w0 w ba xb b m yb t sp v ss L clk C H i) {w1 w2 : World} {c now : Nat} {L' : Ents Int} {clk' : Nat} {C' : Array Value} (hm : Mod (fun x => x = m) w w1) (hl : WatchAt w1 b m sp L' clk' (hearH H c now)) (hm2 : Mod (fun r => r = yb) w1 w2) (hr : RWatchAt w2 yb sp C' (hearH H c now)) :
    Std B w0 w2 ba xb b m yb t sp v ss L' clk' C' (hearH H c now) (i + 1) := by
  obtain ⟨⟨n1, n2, n3, n4⟩, ⟨n5, n6, n7⟩, ⟨n13, n14⟩, n15, n8, n9, n10, n11, n12⟩ := h.nes
  have hb := h.bel.trans (hm.below (Nat.le_trans h.l1 (Nat.le_of_lt h.le.lt)) (fun x hx e => by have := h.l3; omega))
  exact ⟨(h.le.mod hm n3).mod hm2 n4, (h.rl.mod hm n6 (fun r hr e => n10 (by rw [hr]; exact congrArg some e))).mod hm2 n7 (fun r hr e => n11 (by rw [hr]; exact congrArg some e)), hl.mod hm2 n14 n15, hr, by have := h.len; omega, hb.trans (hm2.below (Nat.le_trans (Nat.le_trans h.l1 (Nat.le_of_lt h.le.lt)) hm.size) (fun x hx e => by have := h.l4; omega)), h.l1, h.l2, h.l3, h.l4⟩
theorem Std.forget (h : Std B w0 w ba xb b m yb t sp v ss L clk C H i) {w1 w2 : World} {c : Int} {L' : Ents Int} {C' : Array Value} (hm : Mod (fun x => x = m) w w1) (hl : WatchAt w1 b m sp L' clk (forgetH H c)) (hm2 : Mod (fun r => r = yb) w1 w2) (hr : RWatchAt w2 yb sp C' (forgetH H c)) :
    Std B w0 w2 ba xb b m yb t sp v ss L' clk C' (forgetH H c) (i + 1) := by
  obtain ⟨⟨n1, n2, n3, n4⟩, ⟨n5, n6, n7⟩, ⟨n13, n14⟩, n15, n8, n9, n10, n11, n12⟩ := h.nes
  have hb := h.bel.trans (hm.below (Nat.le_trans h.l1 (Nat.le_of_lt h.le.lt)) (fun x hx e => by have := h.l3; omega))
  exact ⟨(h.le.mod hm n3).mod hm2 n4, (h.rl.mod hm n6 (fun r hr e => n10 (by rw [hr]; exact congrArg some e))).mod hm2 n7 (fun r hr e => n11 (by rw [hr]; exact congrArg some e)), hl.mod hm2 n14 n15, hr, by have := h.len; omega, hb.trans (hm2.below (Nat.le_trans (Nat.le_trans h.l1 (Nat.le_of_lt h.le.lt)) hm.size) (fun x hx e => by have := h.l4; omega)), h.l1, h.l2, h.l3, h.l4⟩
theorem Std.up (h : Std B w0 w ba xb b m yb t sp v ss L clk C H i) : Std B w0 w ba xb b m yb t sp v ss L clk C H (i + 1) := h.next (Below.refl _ _) (Nat.le_succ _)
theorem mod_of_drew {S : Nat → Prop} {a b : World} (h : Mod S a.drew b) : Mod S a b := ⟨h.os, h.tape, h.output, h.size, h.block⟩
theorem scalarInt : ScalarT Try.prog 3 := ⟨⟨_, Try.underlying3, rfl⟩⟩
theorem scalarBool : ScalarT Try.prog 4 := ⟨⟨_, Try.underlying4, rfl⟩⟩
theorem sizeBool : (Try.prog.info? 4).map (·.size) = some 1 := by kernel_rfl
end

/-- The round's end: what is asked behind each call. -/
structure EndAt (w : World) (bc : Nat) (k c : Int) (tt : Nat) : Prop where
  blk : w.heap[bc]? = some (.cells #[.int .i64 k, .int .i64 c, .int .u64 tt] 51 (0, 0))
theorem EndAt.c1 {w : World} {bc : Nat} {k c : Int} {tt : Nat} (h : EndAt w bc k c tt) : w.cell? ⟨bc, 1, none⟩ = some (.int .i64 c) := cell_of h.blk rfl
theorem EndAt.c2 {w : World} {bc : Nat} {k c : Int} {tt : Nat} (h : EndAt w bc k c tt) : w.cell? ⟨bc, 2, none⟩ = some (.int .u64 tt) := cell_of h.blk rfl
theorem EndAt.mod {w w' : World} {bc : Nat} {k c : Int} {tt : Nat} {S : Nat → Prop} (h : EndAt w bc k c tt) (hm : Mod S w w') (hS : ¬ S bc) : EndAt w' bc k c tt := ⟨hm.heap h.blk hS⟩
theorem EndAt.below {w w' : World} {bc : Nat} {k c : Int} {tt : Nat} (h : EndAt w bc k c tt) (hb : Below w.heap.size w w') : EndAt w' bc k c tt := ⟨(hb.block bc (lt_of_block h.blk)).trans h.blk⟩
theorem EndAt.drewN {w : World} {bc : Nat} {k c : Int} {tt : Nat} (h : EndAt w bc k c tt) (n : Nat) : EndAt (w.drewN n) bc k c tt := ⟨h.blk⟩
theorem EndAt.nes {w : World} {bc : Nat} {k c : Int} {tt : Nat} (h : EndAt w bc k c tt) {B : Nat} {w0 : World} {ba xb b m yb t sp : Nat} {v : Value} {ss : List Nat} {L : Ents Int} {clk : Nat} {C : Array Value} {H : Heard} {i : Nat} (hS : Std B w0 w ba xb b m yb t sp v ss L clk C H i) :
    bc ≠ ba ∧ bc ≠ xb ∧ bc ≠ b ∧ bc ≠ m ∧ bc ≠ yb ∧ v.ownBlock ≠ some bc :=
  ⟨ne_blk h.blk hS.le.blk (by decide), ne_blk h.blk hS.rl.blk (by decide), ne_blk h.blk hS.wa.blk (by decide), (fun e => by
    have hb := h.blk
    rw [e, hS.wa.map] at hb
    cases hb), ne_blk h.blk hS.rw_.blk (by decide), hS.rl.ty h.blk (by decide)⟩
end Go.Proofs.Ytnlcnhanhompnaa
