/- Whether puts are a transaction, walked. -/
import Derived.Test.YtmakpbjknklpiaaGreatMgRpl11
import Derived.Test.YtmakpbjknklpiaaGreatMgRpl1
import Derived.Lib.SlKeysI
import Derived.Maps.Range
/- A head is saved, walked. -/
namespace Go.Tn.Dk
open Go.Tn.Bt Go.Tn.Lp
/-- Behind Save: the disk, what is answered. -/
def Dsk.save (d : Dsk) (a ep : Nat) (h : Hd) : Dsk × Nat :=
  if d.step.off = true then (d.step, 7) else ((d.write (a + h.gen % 2) (sealB (headPc ep h))).flush, (d.write (a + h.gen % 2) (sealB (headPc ep h))).dead)
end Go.Tn.Dk
namespace Go.Proofs.YtmakpbjknklpiaaGreat
open Go.RowKit Go.Tn Go.Tn.Bt Go.Tn.Lp Go.Tn.Dk
theorem headD_len (t f : Nat) : (headD t f).length = 8 := by simp [headD, pack_len, bitsN_len]
theorem headPc_sec (ep : Nat) (h : Hd) : secB (sealB (headPc ep h)) := ⟨sealB_len _, sealB_lt _ (pack_lt _) (by simp [headPc, headD_len])⟩
set_option maxRecDepth 20000 in
set_option maxHeartbeats 4000000 in
theorem hsave_any {w : World} {F : Nat → Prop} {p : Nat} {d : Dsk} (h : DAt w F p d) (a ep : Nat) (hd : Hd) (ha : a + 1 < d.L.length) (he : ep ≤ 16777215) (hg : hd.gen ≤ 1099511627775) (ht : hd.tail < 2 ^ 40) (hf : hd.floor < 2 ^ 24) (hq : d.Q.length < 1000000000) :
    Calls Tryz.prog 64 #[.pointer (some ⟨p, 0, none⟩), .int .i64 a, .int .u64 ep, .agg (hdCs hd)] w
    fun e w' => e = .returned (.int .i64 ((d.save a ep hd).2 : Nat)) ∧ ∃ F', DAt w' F' p (d.save a ep hd).1 ∧ Mod F w w' ∧ ∀ b, F' b → F b ∨ w.heap.size ≤ b := by
  obtain ⟨g, t, f⟩ := hd
  simp only at hg ht hf
  have hsec := headPc_sec ep ⟨g, t, f⟩
  have hsv : d.save a ep ⟨g, t, f⟩ = if d.step.off = true then (d.step, 7) else ((d.write (a + g % 2) (sealB (headPc ep ⟨g, t, f⟩))).flush, (d.write (a + g % 2) (sealB (headPc ep ⟨g, t, f⟩))).dead) := rfl
  have hpc : headPc ep ⟨g, t, f⟩ = ⟨ep, g, true, true, headD t f⟩ := rfl
  have hhi := h.ok.hi
  rw [hpc] at hsec hsv
  have HSV := Lib.hid hsv
  have HSEC := Lib.hid hsec
  have hb0 : Below w.heap.size w (w.alloc (.cells (hdCs ⟨g, t, f⟩) 77)) := (Below.refl _ _).alloc (Nat.le_refl _) _
  have hh0 : (w.alloc (.cells (hdCs ⟨g, t, f⟩) 77)).heap[w.heap.size]? = some (.cells (hdCs ⟨g, t, f⟩) 77 (0, 0)) := heap_alloc_at
  have hz0 : (w.alloc (.cells (hdCs ⟨g, t, f⟩) 77)).heap.size = w.heap.size + 1 := by simp
  have hwr := hwrong_ok (h.below hb0) a ha
  have HD := Lib.hid (h.below hb0)
  have HFL := Lib.hid h.lt
  have HB0 := Lib.hid hb0
  have HH0 := Lib.hid hh0
  have HZ0 := Lib.hid hz0
  clear hsv hsec hpc h hb0 hh0 hz0
  simp only [hdCs_lit] at *
  go_enter Tryz.func64, Tryz.ntmps64
  go_upto_region 4 with (first
    | (go_at_call 70; refine hwr.mono ?_; rintro e w2 ⟨rfl, hw2⟩; obtain rfl := hw2.symm; clear hw2)
    | fail)
  generalize w.alloc (.cells #[.int .u64 (g : Nat), .int .u64 (t : Nat), .int .u64 (f : Nat)] 77) = w0 at *
  clear hwr
  have hS : w0.drew.cell? ⟨w.heap.size, 1, none⟩ = some (.int .u64 (t : Nat)) ∧ w0.drew.cell? ⟨w.heap.size, 2, none⟩ = some (.int .u64 (f : Nat)) := ⟨cell_of (o := 1) HH0.out rfl, cell_of (o := 2) HH0.out rfl⟩
  refine wp_region_x (fun w' => w'.cell? ⟨w.heap.size, 1, none⟩ = some (.int .u64 (t : Nat)) ∧ w'.cell? ⟨w.heap.size, 2, none⟩ = some (.int .u64 (f : Nat))) [(1, 1), (2, 0), (4, 1), (5, 0), (0, 2), (3, 2), (6, 2), (7, 2), (8, 1), (9, 1), (10, 1), (11, 1), (12, 1)] (by kernel_rfl) (by kernel_rfl) (by intro d v c a w h; cases d <;> exact h) ?_
  iterate 1 (refine x_take rfl (fun K hK => ?_); go_simp; refine hK _ ?_; clear hK K)
  refine x_read rfl hS (fun w' h => exec_load1 ⟨⟨_, Tryz.underlying49, rfl⟩⟩ rfl h.1) ?_
  iterate 1 (refine x_take rfl (fun K hK => ?_); go_simp; refine hK _ ?_; clear hK K)
  refine x_read rfl hS (fun w' h => exec_load1 ⟨⟨_, Tryz.underlying49, rfl⟩⟩ rfl h.2) ?_
  have hcs : ∀ w' : World, Below w0.heap.size w0 w' → w'.cell? ⟨w.heap.size, 1, none⟩ = some (.int .u64 (t : Nat)) ∧ w'.cell? ⟨w.heap.size, 2, none⟩ = some (.int .u64 (f : Nat)) := fun w' hb =>
    ⟨(hb.cell (p := ⟨w.heap.size, 1, none⟩) (by rw [HZ0.out]; exact Nat.lt_succ_self _)).trans hS.1, (hb.cell (p := ⟨w.heap.size, 2, none⟩) (by rw [HZ0.out]; exact Nat.lt_succ_self _)).trans hS.2⟩
  refine x_show' rfl (fun K hK => ?_)
  go_simp
  refine (bNew_any w0.drew).mono ?_
  rintro e w2 ⟨rfl, hW2, hb2⟩
  have hz2 : w0.drew.heap.size = w0.heap.size := rfl
  rw [hz2] at hW2 hb2 ⊢
  obtain ⟨bw, hbw⟩ : ∃ bw, w0.heap.size = bw := ⟨_, rfl⟩
  have HB2 : Hid (Below bw w0 w2) := Lib.hid (by rw [← hbw]; exact (Below.refl _ _).drew.trans hb2)
  rw [hbw] at hW2 hcs ⊢
  refine hK _ _ (hcs _ HB2.out) ?_
  clear hK K hb2 hS
  refine x_show' rfl (fun K hK => ?_)
  go_simp
  refine (put_bits w2 bw _ _ hW2 t 40 (by simp) (by decide) ht).mono ?_
  rintro e w3 ⟨rfl, v3, hW3, hb3, -⟩
  have HB3 := Lib.hid (HB2.out.trans hb3)
  refine hK _ _ (hcs _ HB3.out) ?_
  clear hK K hb3 hW2
  refine x_show' rfl (fun K hK => ?_)
  go_simp
  refine (put_bits w3 bw _ _ hW3 f 24 (by simp [bitsN_len]) (by decide) hf).mono ?_
  rintro e w4 ⟨rfl, v4, hW4, hb4, -⟩
  have HB4 := Lib.hid (HB3.out.trans hb4)
  refine hK _ _ (hcs _ HB4.out) ?_
  clear hK K hb4 hW3
  refine x_show' rfl (fun K hK => ?_)
  go_simp
  refine (done_any w4 bw _ _ hW4 (by simp [bitsN_len])).mono ?_
  rintro e w5 ⟨v5, rfl, hO5, hb5⟩
  have hbw4 : bw ≤ w4.heap.size := by have := HB4.out.size; omega
  have HB5 := Lib.hid (HB4.out.trans (hb5.mono hbw4))
  refine hK _ _ (hcs _ HB5.out) ?_
  clear hK K hb5
  iterate 5 (refine x_take rfl (fun K hK => ?_); go_simp; refine hK _ ?_; clear hK K)
  refine x_nil ?_
  have hO5' : LOut en8 1 5 w4.heap.size w5 v5 (headD t f) := hO5
  obtain ⟨a5, n5, c5, rfl⟩ := hO5.shape
  have c0 : w5.cell? ⟨w.heap.size, 0, none⟩ = some (.int .u64 (g : Nat)) := (HB5.out.cell (p := ⟨w.heap.size, 0, none⟩) (by rw [← hbw, HZ0.out]; exact Nat.lt_succ_self _)).trans (cell_of (o := 0) HH0.out rfl)
  have hseal := seal_ok w5 ep g true true (headD t f) (.slice a5 n5 c5) (hO5'.sl el8.len) (pack_lt _) he hg (by rw [headD_len]; decide)
  clear hO5 hO5' hW4 hcs
  go_wp2_with fail
  refine hseal.mono ?_
  rintro e w6 ⟨r, rfl, hB6, hr6, hb6⟩
  have hbw5 : bw ≤ w5.heap.size := by have := HB5.out.size; omega
  have hb06 : Below bw w0 w6 := HB5.out.trans (hb6.mono hbw5)
  have c06 : w6.cell? ⟨w.heap.size, 0, none⟩ = some (.int .u64 (g : Nat)) := (hb06.cell (p := ⟨w.heap.size, 0, none⟩) (by rw [← hbw, HZ0.out]; exact Nat.lt_succ_self _)).trans (cell_of (o := 0) HH0.out rfl)
  have hlw : w.heap.size + 1 = bw := by rw [← hbw, HZ0.out]
  have hD6 : DAt w6 F p d := HD.out.below (by rw [hbw]; exact hb06)
  have hsl6 := Bk.sl hB6 (o := 0) (n := 128) (cap := 128) (by rw [sealB_len]; decide) (by decide) (by decide)
  rw [List.drop_zero, List.take_of_length_le (by rw [sealB_len]; decide)] at hsl6
  have hrF : ∀ k, (Value.slice (some ⟨r, 0, none⟩) 128 128).ownBlock = some k → ¬ F k := fun k hk hF => by
    cases hk
    have := HFL.out r hF
    omega
  have hg2 : g % 2 ≤ 1 := by omega
  have hpl := hplace_any w6 a g (by omega) (by omega)
  have hwr := dwrite_any hD6 (a + g % 2) (by omega) _ _ hsl6 HSEC.out hrF hq
  have hokw := hD6.ok.write (i := a + g % 2) (b := sealB ⟨ep, g, true, true, headD t f⟩) (by omega) HSEC.out hq
  have HB06 := Lib.hid (HB0.out.trans (hb06.mono (by omega)))
  have HSEC := Lib.hid hD6.ok
  clear hB6 hb6 hb06 hD6 hsl6 hrF c0 hseal hlw hokw
  generalize sealB ⟨ep, g, true, true, headD t f⟩ = sb at *
  generalize a + g % 2 = ix at *
  have hdead : d.dead = if d.step.off = true then 7 else 0 := rfl
  by_cases hoff : d.step.off = true
  · have hw7 : d.write ix sb = d.step := by unfold Dsk.write; rw [if_pos hoff]
    have h7 : d.dead = 7 := by rw [hdead, if_pos hoff]
    rw [if_pos hoff] at HSV
    rw [h7, hw7] at hwr
    clear hdead h7 hw7 hoff
    go_wp2_with (first
      | (go_at_call 95; refine hpl.mono ?_; rintro e w7 ⟨rfl, hw7⟩; obtain rfl := hw7.symm; clear hw7)
      | (go_at_call 53; refine hwr.mono ?_; rintro e w7 ⟨rfl, F7, hD7, hm7, hF7⟩; have HD7 := Lib.hid hD7; have HM7 := Lib.hid hm7; have HF7 := Lib.hid hF7; clear hD7 hm7 hF7)
      | fail)
    go_ret
    rw [HSV.out]
    refine ⟨rfl, F7, HD7.out, ?_, fun b hb => (HF7.out b hb).imp id fun h => Nat.le_trans HB06.out.size h⟩
    exact (Mod.of_below HB06.out |>.mono (T := F) fun x hx h => absurd hx (Nat.not_lt.2 h)).trans HM7.out (fun _ h => h) fun _ _ h => h
  · have h0 : d.dead = 0 := by rw [hdead, if_neg hoff]
    rw [if_neg hoff] at HSV
    rw [h0] at hwr
    clear hdead h0 hoff
    go_upto_region 13 with (first
      | (go_at_call 95; refine hpl.mono ?_; rintro e w7 ⟨rfl, hw7⟩; obtain rfl := hw7.symm; clear hw7)
      | (go_at_call 53; refine hwr.mono ?_; rintro e w7 ⟨rfl, F7, hD7, hm7, hF7⟩; have HD7 := Lib.hid hD7; have HM7 := Lib.hid hm7; have HF7 := Lib.hid hF7; clear hD7 hm7 hF7)
      | fail)
    have hfl := dflush_any HD7.out
    go_wp2_with (first
      | (go_at_call 61; refine hfl.mono ?_; rintro e w8 ⟨rfl, hD8, hm8⟩; have HD8 := Lib.hid hD8; have HM8 := Lib.hid hm8; clear hD8 hm8)
      | fail)
    go_ret
    rw [HSV.out]
    refine ⟨rfl, F7, HD8.out, ?_, fun b hb => (HF7.out b hb).imp id fun h => Nat.le_trans HB06.out.size h⟩
    refine (Mod.of_below HB06.out |>.mono (T := F) fun x hx h => absurd hx (Nat.not_lt.2 h)).trans (T := F) (HM7.out.trans (T := F) HM8.out (fun _ h => h) fun x hx h => ?_) (fun _ h => h) fun _ _ h => h
    exact (HF7.out x h).resolve_right (by omega)
end Go.Proofs.YtmakpbjknklpiaaGreat

/- A map of numbers as the kit reads it: whose keys. No program. -/
namespace Go.Tn
open Go.RowKit Go.Maps Go.WideElems Go.MapKept

/-- A key that is a number. -/
abbrev encI : Int → Value := Value.int .i64
def anyR : Value → Option (DataW Unit × List MemPlace) := fun _ => some (.nil, [])
theorem owns_ents {P : Program} {K : TypeId} (hK : P.underlying K = some (.int .i64)) {w : World} {m clk : Nat} {L : Ents Int} (hb : w.heap[m]? = some (.map (ents encI L) clk)) (hwf : WF L clk) (hk : ∀ e ∈ L, (Lit.int .i64 e.1).wf = true) (hl : L.length ≤ 100000) :
    ∃ D0 : DataW Unit, w.ownsMap P K anyR m L.length D0 ∧ (intKeys D0).Perm (L.map (·.1)) ∧ Maps.size D0 = L.length := by
  have hrd : ∀ e ∈ L, rd P K anyR ⟨encI e.1, e.2.1, e.2.2⟩ = some (Lit.int .i64 e.1, .nil) := fun e he => by
    simp [rd, anyR, keyOf_int_mk hK (hk e he)]
  have hrg : (ents encI L).toList.map (rg P K anyR) = L.map fun e => (Lit.int .i64 e.1, (DataW.nil : DataW Unit)) := by
    simp only [ents, List.map_map]
    refine List.map_congr_left fun e he => ?_
    show rg P K anyR ⟨encI e.1, e.2.1, e.2.2⟩ = _
    rw [rg, hrd e he]
    rfl
  refine ⟨_, ⟨ents encI L, clk, hb, ⟨?_, ⟨?_, ?_, ?_⟩, ?_⟩, ?_, rfl⟩, ?_, ?_⟩
  · simp [ents]; unfold maxLen; omega
  · intro x hx
    simp only [ents, List.mem_map] at hx
    obtain ⟨e, he, rfl⟩ := hx
    exact hwf.lt e he
  · have h := hwf.stamps
    simp only [ents, List.map_map]
    exact List.pairwise_map.2 (h.imp fun h => h)
  · have h := hwf.keys
    simp only [ents, List.map_map]
    exact List.pairwise_map.2 (h.imp fun h e => h (by simpa [encI] using e))
  · intro x hx
    simp only [ents, List.mem_map] at hx
    obtain ⟨e, he, rfl⟩ := hx
    exact ⟨_, hrd e he⟩
  · simp [ents]
  · rw [hrg]
    show (((L.map fun e => (Lit.int .i64 e.1, (DataW.nil : DataW Unit))).foldr DataW.insert []).map fun p => intOf p.1).Perm _
    refine ((WideShapes.sorted_perm _).map _).trans ?_
    rw [List.map_map]
    exact List.Perm.refl _
  · rw [hrg, Maps.size_eq, (WideShapes.sorted_perm _).length_eq, List.length_map]
end Go.Tn

/- The log: in plain words, in memory; its small functions. -/
namespace Go.Tn.Dk
open Go.Tn.Bt Go.Tn.Lp
/-- A log. -/
structure Lg where
  n : Nat
  epoch : Nat
  gen : Nat
  tail : Nat
  next : Nat
  H : Nat → Option (List Nat)
  err : Nat
def Lg.free (l : Lg) : Nat := l.n - (l.next - l.tail)
def Lg.homes (l : Lg) (d : Dsk) : Nat := d.L.length - 2 - l.n
structure Lg.ok (l : Lg) (d : Dsk) : Prop where
  n2 : 2 ≤ l.n
  nd : l.n + 3 ≤ d.L.length
  epoch : l.epoch ≤ 16777215
  gen : l.gen ≤ 1099511627775
  tail : l.tail ≤ l.next
  next : l.next ≤ l.tail + l.n
  small : l.next < 1099511627776
  err : l.err < 256
  H : ∀ k b, l.H k = some b → k < l.homes d ∧ secB b
/-- A put: where, what. -/
abbrev Pt := Int × List Nat
/-- Whether puts are a transaction. -/
def transB (puts : List Pt) (homes : Nat) : Bool :=
  decide (1 ≤ puts.length) && decide (puts.length ≤ 24) && puts.all (fun p => decide (0 ≤ p.1) && decide (p.1 < homes) && decide (p.2.length = 128)) && decide (puts.map (·.1)).Nodup
def putBits (p : Pt) : List Bool := bitsN p.1.toNat 12 ++ p.2.flatMap fun c => bitsN c 8
/-- A transaction's record. -/
def recB (puts : List Pt) : List Nat := pack (bitsN puts.length 8 ++ puts.flatMap putBits)
/-- Homes behind a transaction. -/
def takeH (H : Nat → Option (List Nat)) (puts : List Pt) : Nat → Option (List Nat) := puts.foldl (fun H p k => if (k : Int) = p.1 then some p.2 else H k) H
end Go.Tn.Dk
namespace Go.Proofs.YtmakpbjknklpiaaGreat
open Go.RowKit Go.Tn Go.Tn.Bt Go.Tn.Lp Go.Tn.Dk
theorem keyI : KeyOK Tryz.prog 3 encI where
  now := ⟨_, Tryz.underlying3, fun a b => by
    right
    simp only [Instr.sameNow, encI]
    rfl⟩
  eq := fun w a b => by
    have e : (a == b) = decide (a = b) := rfl
    simp [encI, Op.equal, Op.maxDepth, go_sem, e]
  chk := fun e w a => by
    have h : ∀ n, (Instr.checkKey e (n + 4) 3 (encI a)).run Tryz.prog w = .ok () w := fun n => by
      simp [encI, Instr.checkKey, underlying, part, go_sem]
    exact h 9996
  bits := fun a => by simp [encI, Instr.sameBits]
/-- Homes in a map. -/
structure HAt (w : World) (F : Nat → Prop) (m : Nat) (L : Ents Int) (clk : Nat) (H : Nat → Option (List Nat)) : Prop where
  blk : w.heap[m]? = some (.map (ents encI L) clk)
  wf : WF L clk
  key : ∀ e ∈ L, ∃ k : Nat, e.1 = (k : Int) ∧ ∃ b, H k = some b ∧ LRd en8 1 0 w e.2.1 b ∧ ∀ r, e.2.1.ownBlock = some r → F r ∧ r ≠ m
  all : ∀ k, H k ≠ none → ∃ e ∈ L, e.1 = ((k : Nat) : Int)
  fm : F m
/-- The log in memory: its blocks are among F. -/
structure LAt (w : World) (F : Nat → Prop) (g p : Nat) (l : Lg) : Prop where
  ex : ∃ m L clk, w.heap[g]? = some (.cells #[.pointer (some ⟨p, 0, none⟩), .int .i64 (l.n : Nat), .int .u64 (l.epoch : Nat), .int .u64 (l.gen : Nat), .int .u64 (l.tail : Nat), .int .u64 (l.next : Nat), .map (some m), .int .i64 (l.err : Nat)] 73 (0, 0)) ∧ HAt w F m L clk l.H ∧ m ≠ g ∧ ∀ e ∈ L, e.2.1.ownBlock ≠ some g
  fg : F g
  lt : ∀ b, F b → b < w.heap.size
theorem HAt.kept {w w' : World} {F : Nat → Prop} {m clk : Nat} {L : Ents Int} {H : Nat → Option (List Nat)} (h : HAt w F m L clk H) (hs : w.heap.size ≤ w'.heap.size) (hb : ∀ b, F b → w'.heap[b]? = w.heap[b]?) : HAt w' F m L clk H :=
  ⟨(hb m h.fm).trans h.blk, h.wf, fun e he => by
    obtain ⟨k, h1, b, h2, h3, h4⟩ := h.key e he
    exact ⟨k, h1, b, h2, h3.kept hs fun r hr => hb r (h4 r hr).1, h4⟩, h.all, h.fm⟩
theorem LAt.kept {w w' : World} {F : Nat → Prop} {g p : Nat} {l : Lg} (h : LAt w F g p l) (hs : w.heap.size ≤ w'.heap.size) (hb : ∀ b, F b → w'.heap[b]? = w.heap[b]?) : LAt w' F g p l := by
  obtain ⟨m, L, clk, h1, h2, h3, h4⟩ := h.ex
  exact ⟨⟨m, L, clk, (hb g h.fg).trans h1, h2.kept hs hb, h3, h4⟩, h.fg, fun b hF => Nat.lt_of_lt_of_le (h.lt b hF) hs⟩
theorem LAt.mod {w w' : World} {F S : Nat → Prop} {g p : Nat} {l : Lg} (h : LAt w F g p l) (hm : Mod S w w') (hS : ∀ b, F b → ¬ S b) : LAt w' F g p l :=
  h.kept hm.size fun b hb => hm.block b (h.lt b hb) (hS b hb)
theorem LAt.below {w w' : World} {F : Nat → Prop} {g p : Nat} {l : Lg} (h : LAt w F g p l) (hb : Below w.heap.size w w') : LAt w' F g p l :=
  h.kept hb.size fun b hF => hb.block b (h.lt b hF)
section
variable {w : World} {F : Nat → Prop} {g p : Nat} {l : Lg}
theorem ok_any (h : LAt w F g p l) : Calls Tryz.prog 47 #[.pointer (some ⟨g, 0, none⟩)] w fun e w' => e = .returned (.bool true) ∧ w' = w := by
  obtain ⟨m, L, clk, h1, -⟩ := h.ex
  have c0 := cell_of (o := 0) h1 rfl
  clear h h1
  go_enter Tryz.func47, Tryz.ntmps47
  go_wp2
  go_ret
  exact ⟨rfl, rfl⟩
theorem gplace_any (h : LAt w F g p l) (hn : 2 ≤ l.n) (hn2 : l.n ≤ 4096) (c : Nat) (hc : c < 2 ^ 63) : Calls Tryz.prog 54 #[.pointer (some ⟨g, 0, none⟩), .int .u64 c] w fun e w' => e = .returned (.int .i64 (2 + c % l.n : Nat)) ∧ w' = w := by
  obtain ⟨m, L, clk, h1, -⟩ := h.ex
  have c1 := cell_of (o := 1) h1 rfl
  clear h h1
  generalize l.n = n at *
  have hm : (c : Int) % (n : Int) = ((c % n : Nat) : Int) := by omega
  have hlt := Nat.mod_lt c (show 0 < n by omega)
  have hr : ((c % n : Nat) : Int) ≤ 4096 := by omega
  have hn0 : (2 : Int) ≤ n := by omega
  have hn3 : (n : Int) ≤ 4096 := by omega
  have hc63 : (c : Int) < 9223372036854775808 := by omega
  generalize c % n = r at *
  go_enter Tryz.func54, Tryz.ntmps54
  go_wp2
  go_ret
  exact ⟨rfl, rfl⟩
end
end Go.Proofs.YtmakpbjknklpiaaGreat

/- Free, Homes, stays; puts in a slice; transaction. -/
namespace Go.Tn.Dk
open Go.Tn Go.Tn.Lp
def enPt (x : Pt × Sv) : List Value := [.int .i64 x.1.1, sv x.2]
end Go.Tn.Dk
namespace Go.Proofs.YtmakpbjknklpiaaGreat
open Go.RowKit Go.Tn Go.Tn.Bt Go.Tn.Lp Go.Tn.Dk
theorem elPt : ElT Tryz.prog 37 96 2 enPt := ⟨Tryz.underlying37, by kernel_rfl, by omega, fun _ => rfl, fun x u hu => by
  simp only [enPt, List.mem_cons, List.not_mem_nil, or_false] at hu
  rcases hu with rfl | rfl <;> rfl⟩
theorem aggPt (a : Int) (v : Value) : AggT Tryz.prog 96 (#[.int .i64 a, v] : Array Value).size := ⟨⟨_, Tryz.underlying96, rfl⟩, by kernel_rfl⟩
theorem zeroI : ∀ w, (zeroValue 3).run Tryz.prog w = .ok (.int .i64 0) w := fun w => by simp [go_sem]
/-- Puts in a slice that can be read. -/
def PtsI (w : World) (v : Value) (ps : List Pt) : Prop := ∃ xs : List (Pt × Sv), xs.map (·.1) = ps ∧ LSl enPt 2 w v xs ∧ ∀ x ∈ xs, LSl en8 1 w (sv x.2) x.1.2
theorem PtsI.below {w w' : World} {v : Value} {ps : List Pt} (h : PtsI w v ps) (hb : Below w.heap.size w w') : PtsI w' v ps := by
  obtain ⟨xs, h1, h2, h3⟩ := h
  exact ⟨xs, h1, h2.below hb, fun x hx => (h3 x hx).below hb⟩
section
variable {w : World} {F : Nat → Prop} {g p : Nat} {l : Lg}
theorem stays_any (h : LAt w F g p l) (e0 : Nat) : Calls Tryz.prog 52 #[.pointer (some ⟨g, 0, none⟩), .int .i64 e0] w fun e w' => e = .returned (.int .i64 e0) ∧ LAt w' F g p { l with err := e0 } ∧ Mod (fun b => b = g) w w' := by
  obtain ⟨m, L, clk, h1, h2, h3, h4⟩ := h.ex
  have c7 := cell_of (o := 7) h1 rfl
  have f7 := free_of (o := 7) h1
  have hh := heap_setCell_at (o := 7) (v := .int .i64 (e0 : Nat)) h1
  have hm : Mod (fun b => b = g) w (w.setCell ⟨g, 7, none⟩ (.int .i64 (e0 : Nat))) := (Mod.refl _ _).setCell _ _ fun _ => rfl
  have hfin : LAt (w.setCell ⟨g, 7, none⟩ (.int .i64 (e0 : Nat))) F g p { l with err := e0 } := by
    refine ⟨⟨m, L, clk, hh, ?_, h3, h4⟩, h.fg, fun b hb => Nat.lt_of_lt_of_le (h.lt b hb) hm.size⟩
    refine ⟨hm.heap h2.blk h3, h2.wf, fun e he => ?_, h2.all, h2.fm⟩
    obtain ⟨k, hk1, b, hk2, hk3, hk4⟩ := h2.key e he
    exact ⟨k, hk1, b, hk2, hk3.kept hm.size fun r hr => hm.block r (h.lt r (hk4 r hr).1) fun e' => h4 e he (by rw [hr]; exact congrArg some e'), hk4⟩
  have HF := Lib.hid hfin
  have HM := Lib.hid hm
  clear h h1 h2 h4 hh hm hfin
  go_enter Tryz.func52, Tryz.ntmps52
  go_wp2
  go_ret
  exact ⟨rfl, HF.out, HM.out⟩
theorem free_any (h : LAt w F g p l) (h1 : l.tail ≤ l.next) (h2 : l.next ≤ l.tail + l.n) (h3 : l.next < 1099511627776) (h4 : l.n ≤ 4096) : Calls Tryz.prog 22 #[.pointer (some ⟨g, 0, none⟩)] w fun e w' => e = .returned (.int .i64 (l.free : Nat)) ∧ Below w.heap.size w w' := by
  have hok := ok_any h
  obtain ⟨m, L, clk, hb, -⟩ := h.ex
  have hS : w.drew.cell? ⟨g, 1, none⟩ = some (.int .i64 (l.n : Nat)) ∧ w.drew.cell? ⟨g, 5, none⟩ = some (.int .u64 (l.next : Nat)) ∧ w.drew.cell? ⟨g, 4, none⟩ = some (.int .u64 (l.tail : Nat)) := ⟨cell_of (o := 1) hb rfl, cell_of (o := 5) hb rfl, cell_of (o := 4) hb rfl⟩
  unfold Lg.free
  obtain ⟨n, ep, gn, t, nx, H, er⟩ := l
  simp only at *
  have hw1 : IntKind.u64.wrap ((nx : Int) - t) = ((nx - t : Nat) : Int) := by rw [IntWalk.u64_in _ (by omega)]; omega
  have hw2 : IntKind.i64.wrap ((nx - t : Nat) : Int) = ((nx - t : Nat) : Int) := IntWalk.i64_in _ (by omega)
  have hw3 : IntKind.i64.wrap ((n : Int) - ((nx - t : Nat) : Int)) = ((n - (nx - t) : Nat) : Int) := by rw [IntWalk.i64_in _ (by omega)]; omega
  generalize n - (nx - t) = r1 at *
  generalize nx - t = r2 at *
  clear h hb h1 h2
  go_enter Tryz.func22, Tryz.ntmps22
  go_upto_region 3 with (first
    | (go_at_call 47; refine hok.mono ?_; rintro e w2 ⟨rfl, hw⟩; obtain rfl := hw.symm; clear hw)
    | fail)
  refine wp_region_x (fun w' => w'.cell? ⟨g, 1, none⟩ = some (.int .i64 (n : Nat)) ∧ w'.cell? ⟨g, 5, none⟩ = some (.int .u64 (nx : Nat)) ∧ w'.cell? ⟨g, 4, none⟩ = some (.int .u64 (t : Nat))) [(0, 1), (1, 1), (2, 1), (3, 0), (4, 1), (5, 1), (6, 1), (7, 0), (8, 1), (9, 1), (10, 1), (11, 0), (12, 1), (13, 1), (14, 1), (15, 1)] (by kernel_rfl) (by kernel_rfl) (by intro d v c a w h; cases d <;> exact h) ?_
  iterate 3 (refine x_take rfl (fun K hK => ?_); go_simp; refine hK _ ?_; clear hK K)
  refine x_read rfl hS (fun w' h => exec_load1 ⟨⟨_, Tryz.underlying3, rfl⟩⟩ rfl h.1) ?_
  iterate 3 (refine x_take rfl (fun K hK => ?_); go_simp; refine hK _ ?_; clear hK K)
  refine x_read rfl hS (fun w' h => exec_load1 ⟨⟨_, Tryz.underlying49, rfl⟩⟩ rfl h.2.1) ?_
  iterate 3 (refine x_take rfl (fun K hK => ?_); go_simp; refine hK _ ?_; clear hK K)
  refine x_read rfl hS (fun w' h => exec_load1 ⟨⟨_, Tryz.underlying49, rfl⟩⟩ rfl h.2.2) ?_
  iterate 4 (refine x_take rfl (fun K hK => ?_); go_simp; refine hK _ ?_; clear hK K)
  refine x_nil ?_
  clear hS
  go_wp2
  go_ret
  exact ⟨rfl, (Below.refl _ _).drew⟩
theorem homes_any {FD : Nat → Prop} {d : Dsk} (h : LAt w F g p l) (hd : DAt w FD p d) (h1 : l.n + 3 ≤ d.L.length) : Calls Tryz.prog 21 #[.pointer (some ⟨g, 0, none⟩)] w fun e w' => e = .returned (.int .i64 (l.homes d : Nat)) ∧ Below w.heap.size w w' := by
  have hok := ok_any h
  have hsz := size_any hd.drew
  have hhi := hd.ok.hi
  obtain ⟨m, L, clk, hb, -⟩ := h.ex
  have hS : w.drew.cell? ⟨g, 0, none⟩ = some (.pointer (some ⟨p, 0, none⟩)) ∧ w.drew.cell? ⟨g, 1, none⟩ = some (.int .i64 (l.n : Nat)) := ⟨cell_of (o := 0) hb rfl, cell_of (o := 1) hb rfl⟩
  unfold Lg.homes
  generalize d.L.length = D at *
  generalize l.n = n at *
  have hw1 : IntKind.i64.wrap ((D : Int) - 2) = (D : Int) - 2 := IntWalk.i64_in _ (by omega)
  have hw3 : IntKind.i64.wrap ((D : Int) - 2 - n) = ((D - 2 - n : Nat) : Int) := by rw [IntWalk.i64_in _ (by omega)]; omega
  generalize D - 2 - n = r1 at *
  clear h hd hb h1
  go_enter Tryz.func21, Tryz.ntmps21
  go_upto_region 3 with (first
    | (go_at_call 47; refine hok.mono ?_; rintro e w2 ⟨rfl, hw⟩; obtain rfl := hw.symm; clear hw)
    | fail)
  refine wp_region_x (fun w' => w'.cell? ⟨g, 0, none⟩ = some (.pointer (some ⟨p, 0, none⟩)) ∧ w'.cell? ⟨g, 1, none⟩ = some (.int .i64 (n : Nat))) [(0, 1), (1, 1), (2, 1), (3, 0), (6, 1), (7, 1), (8, 1), (9, 0), (4, 2), (5, 1), (10, 1), (11, 1)] (by kernel_rfl) (by kernel_rfl) (by intro d v c a w h; cases d <;> exact h) ?_
  iterate 3 (refine x_take rfl (fun K hK => ?_); go_simp; refine hK _ ?_; clear hK K)
  refine x_read rfl hS (fun w' h => exec_load1 ⟨⟨_, Tryz.underlying24, rfl⟩⟩ rfl h.1) ?_
  iterate 3 (refine x_take rfl (fun K hK => ?_); go_simp; refine hK _ ?_; clear hK K)
  refine x_read rfl hS (fun w' h => exec_load1 ⟨⟨_, Tryz.underlying3, rfl⟩⟩ rfl h.2) ?_
  refine x_show' rfl (fun K hK => ?_)
  go_simp
  refine hsz.mono ?_
  rintro e w2 ⟨rfl, hw⟩
  obtain rfl := hw.symm
  refine hK _ _ hS ?_
  clear hK K hw hS
  iterate 3 (refine x_take rfl (fun K hK => ?_); go_simp; refine hK _ ?_; clear hK K)
  refine x_nil ?_
  go_wp2
  go_ret
  exact ⟨rfl, (Below.refl _ _).drew⟩
end
end Go.Proofs.YtmakpbjknklpiaaGreat

/- Whether puts are a transaction, walked. -/
namespace Go.Proofs.YtmakpbjknklpiaaGreat
open Go.RowKit Go.Tn Go.Tn.Bt Go.Tn.Lp Go.Tn.Dk
/-- How often a number comes first in puts. -/
def cntP (ps : List Pt) (x : Int) : Nat := if x ∈ ps.map (·.1) then 1 else 0
def goodP (p : Pt) (homes : Nat) : Prop := 0 ≤ p.1 ∧ p.1 < homes ∧ p.2.length = 128
theorem transB_iff (ps : List Pt) (homes : Nat) : transB ps homes = true ↔ 1 ≤ ps.length ∧ ps.length ≤ 24 ∧ (∀ p ∈ ps, goodP p homes) ∧ (ps.map (·.1)).Nodup := by
  unfold transB goodP
  simp only [Bool.and_eq_true, decide_eq_true_eq, List.all_eq_true]
  constructor
  · rintro ⟨⟨⟨h1, h2⟩, h3⟩, h4⟩
    exact ⟨h1, h2, fun p hp => ⟨(h3 p hp).1.1, (h3 p hp).1.2, (h3 p hp).2⟩, h4⟩
  · rintro ⟨h1, h2, h3, h4⟩
    exact ⟨⟨⟨h1, h2⟩, fun p hp => ⟨⟨(h3 p hp).1, (h3 p hp).2.1⟩, (h3 p hp).2.2⟩⟩, h4⟩
theorem take_snoc {α : Type} {ps : List α} {k : Nat} {p : α} (h : ps[k]? = some p) : ps.take (k + 1) = ps.take k ++ [p] := by
  rw [List.take_add_one, h]
  rfl
theorem trans_bad {ps : List Pt} {k homes : Nat} {p : Pt} (h : ps[k]? = some p) (hp : ¬ goodP p homes) : transB ps homes = false := by
  cases hb : transB ps homes with
  | false => rfl
  | true => exact absurd (((transB_iff ps homes).1 hb).2.2.1 p (List.mem_of_getElem? h)) hp
theorem trans_dup {ps : List Pt} {k homes : Nat} {p : Pt} (h : ps[k]? = some p) (hp : p.1 ∈ (ps.take k).map (·.1)) : transB ps homes = false := by
  cases hb : transB ps homes with
  | false => rfl
  | true =>
    have hnd := ((transB_iff ps homes).1 hb).2.2.2
    have e : ps = ps.take k ++ p :: ps.drop (k + 1) := by
      have h1 := (List.take_append_drop (k + 1) ps).symm
      rw [take_snoc h] at h1
      simpa using h1
    rw [e, List.map_append, List.map_cons] at hnd
    exact absurd rfl ((List.pairwise_append.1 hnd).2.2 _ hp _ List.mem_cons_self)
set_option maxRecDepth 20000 in
set_option maxHeartbeats 4000000 in
theorem trans_any (w : World) (v : Value) (ps : List Pt) (h : PtsI w v ps) (homes : Nat) (hh : homes ≤ 100000) (hn : ps.length ≤ 100000) :
    Calls Tryz.prog 48 #[v, .int .i64 homes] w fun e w' => e = .returned (.bool (transB ps homes)) ∧ Below w.heap.size w w' := by
  obtain ⟨xs, hxs, hL, hD⟩ := h
  have hxl : xs.length = ps.length := by rw [← hxs]; simp
  obtain ⟨ao, cap, rfl, h1, h2, h3⟩ := hL
  rw [hxl] at h1 h3 ⊢
  unfold maxLen at h2
  have HXS := Lib.hid hxs
  have HD := Lib.hid hD
  have HXL := Lib.hid hxl
  clear hxs hD hxl
  have h63 : (ps.length : Int) ≤ 100000 := by omega
  have hh63 : (homes : Int) ≤ 100000 := by omega
  have hb0 : Below w.heap.size w (w.alloc (.map #[] 0)) := (Below.refl _ _).alloc (Nat.le_refl _) _
  have hm0 : (w.alloc (.map #[] 0)).heap[w.heap.size]? = some (.map (ents encI []) 0) := heap_alloc_at
  have HB0 := Lib.hid hb0
  have HM0 := Lib.hid hm0
  clear hb0 hm0
  go_enter Tryz.func48, Tryz.ntmps48
  have hmm := @run_makeMap Tryz.prog
  go_wp2_with fail
  clear hmm
  go_loopw [11] (fun iv wi => ∃ k : Nat, k ≤ ps.length ∧ iv = .int .i64 k ∧ (∀ p ∈ ps.take k, goodP p homes) ∧ ((ps.take k).map (·.1)).Nodup ∧ Below w.heap.size w wi ∧
    ∃ (L : Ents Int) (clk : Nat), wi.heap[w.heap.size]? = some (.map (ents encI L) clk) ∧ WF L clk ∧ ∀ x, getD x L (.int .i64 0) = .int .i64 (cntP (ps.take k) x : Nat)) (fun iv _ => ps.length - (intOf iv).toNat)
  case atStart => exact ⟨0, Nat.zero_le _, rfl, (fun p hp => by cases hp), List.nodup_nil, HB0.out, [], 0, HM0.out, WF.nil 0, fun x => rfl⟩
  case round =>
    obtain ⟨k, hk, rfl, hg, hnd, hb, L, clk, hm, hwf, hcnt⟩ := hrel
    by_cases hkl : k < ps.length
    · have hkl' : (k : Int) < (ps.length : Int) := by omega
      obtain ⟨x, hx⟩ : ∃ x, xs[k]? = some x := ⟨_, List.getElem?_eq_getElem (by rw [HXL.out]; exact hkl)⟩
      obtain ⟨b, off, rfl, hbl, hcells⟩ := h3 (by omega)
      have hlies := (hcells k x hx).below' hb hbl
      have hpx : ps[k]? = some x.1 := by rw [← HXS.out, List.getElem?_map, hx]; rfl
      obtain ⟨da, dc, hdv, hd1, hd2, -⟩ := HD.out x (List.mem_of_getElem? hx)
      obtain ⟨⟨at_, dat⟩, ⟨a1, n1, c1⟩⟩ := x
      obtain ⟨rfl, rfl, rfl⟩ : a1 = da ∧ n1 = dat.length ∧ c1 = dc := by simpa [sv] using hdv
      simp only at hd1 hd2 hpx
      unfold maxLen at hd2
      have hdl : (dat.length : Int) ≤ 9223372036854775807 := by omega
      have hts := take_snoc hpx
      have hc := hcnt at_
      have HLS : Hid (Lies wr b (off + k * 2) #[.int .i64 at_, .slice a1 dat.length c1]) := Lib.hid hlies
      have hm1 : (wr.alloc (.cells #[.int .i64 at_, .slice a1 dat.length c1] 96)).heap[w.heap.size]? = some (.map (ents encI L) clk) := heap_alloc_of hm
      have hb1 : Below w.heap.size w (wr.alloc (.cells #[.int .i64 at_, .slice a1 dat.length c1] 96)) := hb.alloc hb.size _
      have hbox : (wr.alloc (.cells #[.int .i64 at_, .slice a1 dat.length c1] 96)).heap[wr.heap.size]? = some (.cells #[.int .i64 at_, .slice a1 dat.length c1] 96 (0, 0)) := heap_alloc_at
      have hbz : wr.heap.size ≠ w.heap.size := by have := lt_of_block hm; omega
      have HM1 := Lib.hid hm1
      have HB1 := Lib.hid hb1
      have HBOX := Lib.hid hbox
      have HWF := Lib.hid hwf
      have HTS := Lib.hid hts
      have HCN := Lib.hid hcnt
      have HG := Lib.hid hg
      have HND := Lib.hid hnd
      have HPX := Lib.hid hpx
      obtain ⟨c, hce⟩ : ∃ c, cntP (ps.take k) at_ = c := ⟨_, rfl⟩
      have hc1 : c = 0 ∨ c = 1 := by unfold cntP at hce; split at hce <;> omega
      rw [hce] at hc
      have hc2 : (c : Int) ≤ 1 := by omega
      have HCE := Lib.hid hce
      clear hx hcells hlies hpx hdv hm hm1 hb hb1 hbox hwf hts hcnt hg hnd hce hd1
      go_upto_region 6 with (first
        | ((with_reducible refine wpList_loadA (aggPt _ _) HLS.out ?_ ?_); rfl; go_frame)
        | ((with_reducible refine wpList_exec rfl (exec_lookup keyI Tryz.underlying136 zeroI HM1.out ?_ at_ ?_) ?_); rfl; rfl; go_frame)
        | ((with_reducible refine wpList_mapUpd keyI Tryz.underlying136 HM1.out HWF.out at_ (.int .i64 ((c : Int) + 1)) ?_ ?_ ?_ ?_); rfl; rfl; rfl; (intro w4 hm4 hwf4 hmod4; have HM4 := Lib.hid hm4; have HWF4 := Lib.hid hwf4; have HMO := Lib.hid hmod4; clear hm4 hwf4 hmod4); go_frame)
        | fail)
      have HBOX4 := HMO.out.heap (S := fun x => x = w.heap.size) HBOX.out hbz
      have HB4 := Lib.hid (HB1.out.trans (HMO.out.below HB1.out.size fun x hx e => by omega))
      have q0 := cell_of (o := 0) HBOX4 rfl
      have q1 := cell_of (o := 1) HBOX4 rfl
      have hc4 : getD at_ (upd at_ (.int .i64 ((c : Int) + 1)) L clk) (.int .i64 0) = .int .i64 ((c : Int) + 1) := by
        unfold getD
        rw [get_upd HWF.out, if_pos rfl]
        rfl
      clear HBOX4 hbz hc
      by_cases hA : at_ < 0
      · have hA' : decide (at_ < 0) = true := by simp [hA]
        have HBAD := Lib.hid (trans_bad (homes := homes) HPX.out fun e => absurd e.1 (by simp only; omega))
        go_wp2_with (first
          | ((with_reducible refine wpList_execW (exec_lookup keyI Tryz.underlying136 zeroI HM4.out ?_ at_ ?_) ?_ ?_); rfl; rfl; (first | rfl | (go_simp; done)); go_frame)
          | fail)
        go_ret
        rw [HBAD.out]
        exact ⟨rfl, HB4.out⟩
      · have hA' : decide (at_ < 0) = false := by simp; omega
        by_cases hB : (homes : Int) ≤ at_
        · have hB' : decide ((homes : Int) ≤ at_) = true := by simp [hB]
          have HBAD := Lib.hid (trans_bad (homes := homes) HPX.out fun e => absurd e.2.1 (by simp only; omega))
          go_wp2_with (first
            | ((with_reducible refine wpList_execW (exec_lookup keyI Tryz.underlying136 zeroI HM4.out ?_ at_ ?_) ?_ ?_); rfl; rfl; (first | rfl | (go_simp; done)); go_frame)
            | fail)
          go_ret
          rw [HBAD.out]
          exact ⟨rfl, HB4.out⟩
        · have hB' : decide ((homes : Int) ≤ at_) = false := by simp; omega
          by_cases hC : dat.length = 128
          rotate_left
          · have hC' : ((dat.length : Int) != 128) = true := by rw [bne_iff_ne]; omega
            have HBAD := Lib.hid (trans_bad (homes := homes) HPX.out fun e => absurd e.2.2 hC)
            go_wp2_with (first
              | ((with_reducible refine wpList_execW (exec_lookup keyI Tryz.underlying136 zeroI HM4.out ?_ at_ ?_) ?_ ?_); rfl; rfl; (first | rfl | (go_simp; done)); go_frame)
              | fail)
            go_ret
            rw [HBAD.out]
            exact ⟨rfl, HB4.out⟩
          · have hC' : ((dat.length : Int) != 128) = false := by rw [bne_eq_false_iff_eq]; omega
            have HC := Lib.hid hC
            clear hC
            rcases hc1 with rfl | rfl
            · have hin : at_ ∉ (ps.take k).map (·.1) := fun h => by
                have := HCE.out
                unfold cntP at this
                rw [if_pos h] at this
                omega
              have HIN := Lib.hid hin
              clear hin
              have hD' : decide ((1 : Int) < ((0 : Nat) : Int) + 1) = false := by simp
              simp only [Int.ofNat_zero, Int.zero_add] at hc4 hD' ⊢
              have hc4' := hc4
              go_wp2_with (first
                | ((with_reducible refine wpList_execW (exec_lookup keyI Tryz.underlying136 zeroI HM4.out ?_ at_ ?_) ?_ ?_); rfl; rfl; (first | rfl | (go_simp; done)); go_frame)
                | fail)
              go_roundw
              case rel =>
                refine ⟨k + 1, by omega, by go_num, ?_, ?_, HB4.out, _, _, HM4.out, HWF4.out, fun x => ?_⟩
                · rw [HTS.out]
                  intro p hp
                  rcases List.mem_append.1 hp with hp | hp
                  · exact HG.out p hp
                  · rw [List.mem_singleton.1 hp]
                    exact ⟨by simp only; omega, by simp only; omega, HC.out⟩
                · rw [HTS.out, List.map_append]
                  exact List.pairwise_append.2 ⟨HND.out, by simp, fun a ha b hb e => HIN.out (by simp at hb; rw [← hb, ← e]; exact ha)⟩
                · have hx := HCN.out x
                  unfold getD at hx ⊢
                  rw [get_upd HWF.out]
                  by_cases hxa : x = at_
                  · rw [if_pos hxa]
                    unfold cntP
                    rw [HTS.out, if_pos (by rw [List.map_append]; simp [hxa])]
                    rfl
                  · rw [if_neg hxa, hx]
                    unfold cntP
                    rw [HTS.out, List.map_append]
                    simp only [List.mem_append, List.map_cons, List.map_nil, List.mem_singleton, hxa, or_false]
              case measure => simp [intOf]; omega
            · have hin : at_ ∈ (ps.take k).map (·.1) := by
                have := HCE.out
                unfold cntP at this
                split at this
                · assumption
                · omega
              have HIN := Lib.hid hin
              clear hin
              have e2 : (((1 : Nat) : Int) + 1) = 2 := rfl
              rw [e2] at hc4 HM4 HWF4
              clear e2
              have HBAD := Lib.hid (trans_dup (homes := homes) HPX.out HIN.out)
              go_wp2_with (first
                | ((with_reducible refine wpList_execW (exec_lookup keyI Tryz.underlying136 zeroI HM4.out ?_ at_ ?_) ?_ ?_); rfl; rfl; (first | rfl | (go_simp; done)); go_frame)
                | fail)
              go_ret
              rw [HBAD.out]
              exact ⟨rfl, HB4.out⟩
    · obtain rfl : k = ps.length := by omega
      rw [List.take_length] at hg hnd
      have hiff := transB_iff ps homes
      have HG := Lib.hid hg
      have HND := Lib.hid hnd
      have HI := Lib.hid hiff
      have HB := Lib.hid hb
      clear hg hnd hiff hb hm hwf hcnt
      by_cases hl1 : 1 ≤ ps.length
      · by_cases hl2 : ps.length ≤ 24
        · have hT : transB ps homes = true := HI.out.2 ⟨hl1, hl2, HG.out, HND.out⟩
          have HT := Lib.hid hT
          have hA : decide ((1 : Int) ≤ ps.length) = true := by simp; omega
          have hB : decide ((ps.length : Int) ≤ 24) = true := by simp; omega
          clear hT
          go_wp2
          go_ret
          rw [HT.out]
          exact ⟨rfl, HB.out⟩
        · have hT : transB ps homes = false := by
            cases e : transB ps homes with
            | false => rfl
            | true => exact absurd (HI.out.1 e).2.1 hl2
          have HT := Lib.hid hT
          have hA : decide ((1 : Int) ≤ ps.length) = true := by simp; omega
          have hB : decide ((ps.length : Int) ≤ 24) = false := by simp; omega
          clear hT
          go_wp2
          go_ret
          rw [HT.out]
          exact ⟨rfl, HB.out⟩
      · have hT : transB ps homes = false := by
          cases e : transB ps homes with
          | false => rfl
          | true => exact absurd (HI.out.1 e).1 hl1
        have HT := Lib.hid hT
        have hA : decide ((1 : Int) ≤ ps.length) = false := by simp; omega
        clear hT
        go_wp2
        go_ret
        rw [HT.out]
        exact ⟨rfl, HB.out⟩
end Go.Proofs.YtmakpbjknklpiaaGreat
