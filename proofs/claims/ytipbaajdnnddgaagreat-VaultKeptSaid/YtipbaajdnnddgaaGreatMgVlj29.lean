/- A disk with a fuse: Sync, a crash, a new disk. Plain. -/
import Derived.Test.YtipbaajdnnddgaaGreatMgVlj24
import Derived.Test.YtipbaajdnnddgaaGreatMgVlj25
import Derived.Test.YtipbaajdnnddgaaGreatMgVlj27
import Derived.Test.YtipbaajdnnddgaaGreatMgVlj28
/- The store in memory; its inodes, its map. -/
namespace Go.Tn.Dk
theorem home_sec {l : Lg} {d : Dsk} (h : l.ok d) (hd : d.ok) {i : Nat} (hi : i < l.homes d) : secB (l.home d i) := by
  unfold Lg.home
  cases hq : l.H i with
  | some b => exact (h.H i b hq).2
  | none =>
    refine hd.get ?_
    unfold Lg.homes at hi
    omega
end Go.Tn.Dk
namespace Go.Proofs.YtipbaajdnnddgaaGreat
open Go.RowKit Go.Tn Go.Tn.Bt Go.Tn.Lp Go.Tn.Dk Go.Tn.Ino
/-- A store, its log and its disk. -/
structure Fs (w : World) (F FD : Nat → Prop) (s g p : Nat) (l : Lg) (d : Dsk) : Prop where
  blk : w.heap[s]? = some (.cells #[.pointer (some ⟨g, 0, none⟩)] 86 (0, 0))
  log : LAt w F g p l
  disk : DAt w FD p d
  ap : ∀ b, F b → ¬ FD b
  ns : ¬ F s
  nd : ¬ FD s
section
variable {w w' : World} {F FD F' FD' : Nat → Prop} {s g p : Nat} {l l' : Lg} {d d' : Dsk}
theorem Fs.below (h : Fs w F FD s g p l d) (hb : Below w.heap.size w w') : Fs w' F FD s g p l d :=
  ⟨(hb.block s (lt_of_block h.blk)).trans h.blk, h.log.below hb, h.disk.below hb, h.ap, h.ns, h.nd⟩
theorem Fs.mod {S : Nat → Prop} (h : Fs w F FD s g p l d) (hm : Mod S w w') (h1 : ∀ b, F b → ¬ S b) (h2 : ∀ b, FD b → ¬ S b) (h3 : ¬ S s) : Fs w' F FD s g p l d :=
  ⟨hm.heap h.blk h3, h.log.mod hm h1, h.disk.mod hm h2, h.ap, h.ns, h.nd⟩
theorem Fs.drew (h : Fs w F FD s g p l d) : Fs w.drew F FD s g p l d := h.below ((Below.refl _ _).drew)
theorem Fs.c (h : Fs w F FD s g p l d) : w.cell? ⟨s, 0, none⟩ = some (.pointer (some ⟨g, 0, none⟩)) := cell_of h.blk rfl
theorem Fs.turn (h : Fs w F FD s g p l d) (hL : LAt w' F' g p l') (hD : DAt w' FD' p d') (hm : Mod (fun b => F b ∨ FD b) w w') (h1 : ∀ b, F' b → F b ∨ w.heap.size ≤ b) (h2 : ∀ b, FD' b → FD b ∨ w.heap.size ≤ b) (h3 : ∀ b, F' b → ¬ FD' b) : Fs w' F' FD' s g p l' d' := by
  have hs := lt_of_block h.blk
  refine ⟨hm.heap h.blk (fun e => e.elim h.ns h.nd), hL, hD, h3, fun e => ?_, fun e => ?_⟩
  · rcases h1 s e with e | e
    · exact h.ns e
    · omega
  · rcases h2 s e with e | e
    · exact h.nd e
    · omega
theorem fsok_any (h : Fs w F FD s g p l d) : Calls Tryz.prog 34 #[.pointer (some ⟨s, 0, none⟩)] w fun e w' => e = .returned (.bool true) ∧ w' = w := by
  have c := h.c
  clear h
  go_enter Tryz.func34, Tryz.ntmps34
  go_wp2
  go_ret
  exact ⟨rfl, rfl⟩
/-- What Decode answers. -/
theorem decI_parts (B : List Nat) : ∃ (x : Ino) (c : Nat), decI (inoOf B) = .tuple #[.agg (inoC x), .int .i64 (c : Nat)] ∧ x.bl.length = 8 := by
  cases h : inoOf B with
  | none => exact ⟨_, 4, rfl, rfl⟩
  | some x =>
    refine ⟨x, 0, rfl, ?_⟩
    unfold inoOf at h
    split at h
    · cases h
      exact (inoAt_fits B).len
    · cases h
set_option maxRecDepth 20000 in
set_option maxHeartbeats 2000000 in
theorem finode_any (h : Fs w F FD s g p l d) (hok : l.ok d) (i : Nat) (hi : 1 + i < l.homes d) : Calls Tryz.prog 31 #[.pointer (some ⟨s, 0, none⟩), .int .i64 i] w
    fun e w' => e = .returned (decI (inoOf (l.home d (1 + i)))) ∧ Below w.heap.size w w' := by
  have hho : l.homes d ≤ 4096 := by have := h.disk.ok.hi; unfold Lg.homes; omega
  have hsec := home_sec hok h.disk.ok hi
  have hbz : (w.alloc (.cells (inoC (Ino.free 0)) 89)).heap[w.heap.size]? = some (.cells (inoC (Ino.free 0)) 89 (0, 0)) := heap_alloc_at
  have hb1 : Below w.heap.size w (w.alloc (.cells (inoC (Ino.free 0)) 89)) := (Below.refl _ _).alloc (Nat.le_refl _) _
  have hz1 : (w.alloc (.cells (inoC (Ino.free 0)) 89)).heap.size = w.heap.size + 1 := by simp
  generalize hw1 : w.alloc (.cells (inoC (Ino.free 0)) 89) = w1 at hbz hb1 hz1
  have h1 := h.below hb1
  have hrd := gread_any h1.log h1.disk hok (1 + i) hi
  rw [show ((1 + i : Nat) : Int) = 1 + (i : Int) from Int.natCast_add 1 i] at hrd
  have c := h1.c
  have hi63 : (i : Int) < 4096 := by omega
  rw [inoC_free] at hw1
  have HB1 := Lib.hid hb1
  have HBZ := Lib.hid hbz
  have HZ1 := Lib.hid hz1
  have HS := Lib.hid hsec
  obtain ⟨R, hR⟩ : ∃ R, decI (inoOf (l.home d (1 + i))) = R := ⟨_, rfl⟩
  rw [hR]
  have HR := Lib.hid hR
  clear h hok hho hsec hbz hb1 hz1 h1 hi hR
  go_enter Tryz.func31, Tryz.ntmps31
  go_upto_region 1 with fail
  simp only [hw1, Int.natCast_zero] at *
  clear hw1
  go_wp2_with fail
  refine hrd.mono ?_
  rintro e w2 ⟨v2, rfl, hO2, hb2⟩
  have hdc := idec_any w2 v2 _ hO2.sl HS.out.1 HS.out.2
  obtain ⟨x, cd, hx, hx8⟩ := decI_parts (l.home d (1 + i))
  rw [hx] at hdc
  have HX : Hid (R = .tuple #[.agg (inoC x), .int .i64 (cd : Nat)]) := Lib.hid (HR.out.symm.trans hx)
  obtain ⟨a2, n2, c2, rfl⟩ : ∃ a n c, v2 = .slice a n c := by
    obtain ⟨ao, cap, rfl, -⟩ := hO2.sl
    exact ⟨_, _, _, rfl⟩
  have HB2 := Lib.hid hb2
  clear hrd hO2 hb2 hx
  go_wp2_with fail
  refine hdc.mono ?_
  rintro e w3 ⟨rfl, hb3⟩
  have hb13 : Below w1.heap.size w1 w3 := HB2.out.trans (hb3.mono HB2.out.size)
  have hbz3 := (hb13.block w.heap.size (by rw [HZ1.out]; exact Nat.lt_succ_self _)).trans HBZ.out
  have hagx := aggI hx8
  have honex := inoC_one x
  have hszx : (inoC (Ino.free 0)).size = (inoC x).size := by rw [inoC_size rfl, inoC_size hx8]
  have HB13 := Lib.hid hb13
  clear hdc hb3 hb13
  go_wp2_with (first
    | ((with_reducible refine wpList_storeB hagx ?_ ?_ hbz3 hszx honex ?_); rfl; rfl; (intro w9 hh9 hm9; have HH9 := Lib.hid hh9; have HM9 := Lib.hid hm9; clear hh9 hm9); go_frame)
    | fail)
  refine bodyPost_ret (results_cellT rfl _ rfl hagx (lies_of HH9.out)) rfl ?_
  rw [HX.out]
  exact ⟨rfl, HB1.out.trans ((HB13.out.mono HB1.out.size).trans (HM9.out.below (Nat.le_trans HB1.out.size HB13.out.size) fun x hx e => by omega))⟩
end
end Go.Proofs.YtipbaajdnnddgaaGreat

/- The store's map. -/
namespace Go.Proofs.YtipbaajdnnddgaaGreat
open Go.RowKit Go.Tn Go.Tn.Bt Go.Tn.Lp Go.Tn.Dk Go.Tn.Ino
/-- Which homes a sector's bits say are taken. -/
def mapT (b : List Nat) : Nat → Bool := Al.homesOf fun i => b.getD i 0
def takenB (b : List Nat) (n : Nat) : Prop := ∀ j, j < 1024 → n ≤ j → mapT b j = false
theorem raw_of_sl {w : World} {v : Value} {b : List Nat} (h : LSl en8 1 w v b) (hs : secB b) : ∃ ao cap, v = .slice ao 128 cap ∧ Al.RawIn w ao 128 fun i => b.getD i 0 := by
  obtain ⟨ao, cap, rfl, h1, h2, h3⟩ := h
  rw [hs.1] at h3 ⊢
  refine ⟨ao, cap, rfl, fun _ => ?_⟩
  obtain ⟨r, off, rfl, hr, hc⟩ := h3 (by decide)
  refine ⟨r, off, rfl, hr, fun i hi => ?_⟩
  have hx : b[i]? = some (b[i]'(by rw [hs.1]; exact hi)) := List.getElem?_eq_getElem _
  have := hc i _ hx 0 (by simp)
  rw [Nat.mul_one, Nat.add_zero] at this
  have hd : b.getD i 0 = b[i]'(by rw [hs.1]; exact hi) := by rw [List.getD_eq_getElem?_getD, hx]; rfl
  show w.cell? _ = some (.int .u8 (b.getD i 0 : Nat)) ∧ b.getD i 0 < 256
  rw [hd]
  exact ⟨this, hs.2 _ (List.getElem_mem _)⟩
section
variable {w w' : World} {F FD : Nat → Prop} {s g p : Nat} {l : Lg} {d : Dsk}
set_option maxRecDepth 20000 in
theorem ftaken_any (h : Fs w F FD s g p l d) (hok : l.ok d) (h2 : 2 ≤ l.homes d) (h1024 : l.homes d ≤ 1024) : Calls Tryz.prog 52 #[.pointer (some ⟨s, 0, none⟩)] w
    fun e w' => (takenB (l.home d 1) (l.homes d) → ∃ m, e = .returned (.tuple #[.pointer (some ⟨m, 0, none⟩), .int .i64 0]) ∧ Al.MapAt w' m (l.homes d) (mapT (l.home d 1)) ∧ w.heap.size ≤ m) ∧ (¬ takenB (l.home d 1) (l.homes d) → e = .returned (.tuple #[.pointer none, .int .i64 4])) ∧ Below w.heap.size w w' := by
  have hsec := home_sec hok h.disk.ok (show 1 < l.homes d by omega)
  have hrd := gread_any h.log h.disk hok 1 (by omega)
  have c := h.c
  have HF := Lib.hid h
  have HS := Lib.hid hsec
  have HOK := Lib.hid hok
  rw [show ((1 : Nat) : Int) = 1 from rfl] at hrd
  clear h hsec hok
  go_enter Tryz.func52, Tryz.ntmps52
  go_wp2_with fail
  refine hrd.mono ?_
  rintro e w2 ⟨v2, rfl, hO2, hb2⟩
  obtain ⟨ao, cap, rfl, hraw⟩ := raw_of_sl hO2.sl HS.out
  have h2' := HF.out.below hb2
  have c2 := h2'.c
  have hho := homes_any h2'.log h2'.disk HOK.out.nd
  have HB2 := Lib.hid hb2
  have HRW := Lib.hid hraw
  clear hrd hO2 hb2 hraw h2' c
  go_wp2_with fail
  refine hho.mono ?_
  rintro e w3 ⟨rfl, hb3⟩
  have hBI : Al.BytesIn w3 ao (mapT (l.home d 1)) := Al.BytesIn.below (Al.RawIn.bytes HRW.out) hb3
  have hld := Al.load_any w3 ao cap (mapT (l.home d 1)) hBI (fun i hi => by simp [mapT, Al.homesOf]; omega) (l.homes d) (by omega) h1024
  have HB3 := Lib.hid (HB2.out.trans (hb3.mono HB2.out.size))
  clear hho hb3 hBI
  go_wp2_with fail
  refine hld.mono ?_
  rintro e w4 ⟨hy, hn, hb4⟩
  have HB4 := Lib.hid (HB3.out.trans (hb4.mono HB3.out.size))
  by_cases ht : takenB (l.home d 1) (l.homes d)
  · obtain ⟨m, rfl, hM, hm⟩ := hy ht
    have HT := Lib.hid ht
    have HM := Lib.hid hM
    have HMm := Lib.hid (Nat.le_trans HB3.out.size hm)
    clear hy hn ht hM hm hb4 hld
    go_wp2
    go_ret2
    exact ⟨fun _ => ⟨m, rfl, HM.out, HMm.out⟩, fun hn => absurd HT.out hn, HB4.out⟩
  · obtain rfl := hn ht
    have HT := Lib.hid ht
    clear hy hn ht hb4 hld
    go_wp2
    go_ret2
    exact ⟨fun hy => absurd hy HT.out, fun _ => rfl, HB4.out⟩
end
end Go.Proofs.YtipbaajdnnddgaaGreat

/- Puts in memory that are all there. -/
namespace Go.Proofs.YtipbaajdnnddgaaGreat
open Go.RowKit Go.Tn Go.Tn.Bt Go.Tn.Lp Go.Tn.Dk
/-- Puts in a slice, all there, none of their blocks among S. -/
def PtB (w : World) (S : Nat → Prop) (v : Value) (ps : List Pt) : Prop := ∃ xs : List (Pt × Sv), xs.map (·.1) = ps ∧ LSl enPt 2 w v xs ∧ (∀ r, v.ownBlock = some r → ¬ S r ∧ r < w.heap.size) ∧ ∀ x ∈ xs, LSl en8 1 w (sv x.2) x.1.2 ∧ ∀ r, (sv x.2).ownBlock = some r → ¬ S r ∧ r < w.heap.size
theorem PtsO.b {B : Nat} {w : World} {S : Nat → Prop} {v : Value} {ps : List Pt} (h : PtsO B w v ps) (hS : ∀ b, S b → b < B ∨ w.heap.size ≤ b) : PtB w S v ps := by
  obtain ⟨xs, h1, h2, h3⟩ := h
  refine ⟨xs, h1, h2.sl elPt.len, fun r hr => ⟨fun e => ?_, h2.lt hr⟩, fun x hx => ⟨(h3 x hx).1, fun r hr => ⟨fun e => ?_, ((h3 x hx).2 r hr).2.1⟩⟩⟩
  · have := h2.lt hr
    have := h2.lo r hr
    rcases hS r e with h | h <;> omega
  · have := ((h3 x hx).2 r hr)
    rcases hS r e with h | h <;> omega
theorem PtB.a {w : World} {S : Nat → Prop} {v : Value} {ps : List Pt} (h : PtB w S v ps) : PtsA w S v ps := by
  obtain ⟨xs, h1, h2, h3, h4⟩ := h
  exact ⟨xs, h1, h2, fun r hr => (h3 r hr).1, fun x hx => ⟨(h4 x hx).1, fun r hr => ((h4 x hx).2 r hr).1⟩⟩
theorem PtB.mod {w w' : World} {S S' : Nat → Prop} {v : Value} {ps : List Pt} (h : PtB w S v ps) (hm : Mod S w w') (hS : ∀ b, S' b → S b ∨ w.heap.size ≤ b) : PtB w' S' v ps := by
  obtain ⟨xs, h1, h2, h3, h4⟩ := h
  have key : ∀ r, ¬ S r ∧ r < w.heap.size → ¬ S' r ∧ r < w'.heap.size := fun r hr => ⟨fun e => by
    rcases hS r e with h | h
    · exact hr.1 h
    · omega, Nat.lt_of_lt_of_le hr.2 hm.size⟩
  exact ⟨xs, h1, h2.mod hm fun r hr => (h3 r hr).1, fun r hr => key r (h3 r hr), fun x hx => ⟨(h4 x hx).1.mod hm fun r hr => ((h4 x hx).2 r hr).1, fun r hr => key r ((h4 x hx).2 r hr)⟩⟩
theorem PtB.below {w w' : World} {S : Nat → Prop} {v : Value} {ps : List Pt} (h : PtB w S v ps) (hb : Below w.heap.size w w') : PtB w' S v ps := by
  obtain ⟨xs, h1, h2, h3, h4⟩ := h
  exact ⟨xs, h1, h2.below hb, fun r hr => ⟨(h3 r hr).1, Nat.lt_of_lt_of_le (h3 r hr).2 hb.size⟩, fun x hx => ⟨(h4 x hx).1.below hb, fun r hr => ⟨((h4 x hx).2 r hr).1, Nat.lt_of_lt_of_le ((h4 x hx).2 r hr).2 hb.size⟩⟩⟩
theorem PtB.sub {w : World} {S S' : Nat → Prop} {v : Value} {ps : List Pt} (h : PtB w S v ps) (hS : ∀ b, S' b → S b) : PtB w S' v ps := by
  obtain ⟨xs, e1, e2, e3, e4⟩ := h
  exact ⟨xs, e1, e2, fun r hr => ⟨fun e => (e3 r hr).1 (hS _ e), (e3 r hr).2⟩, fun x hx => ⟨(e4 x hx).1, fun r hr => ⟨fun e => ((e4 x hx).2 r hr).1 (hS _ e), ((e4 x hx).2 r hr).2⟩⟩⟩
end Go.Proofs.YtipbaajdnnddgaaGreat

/- A disk with a fuse: what its calls may leave. Plain. -/
namespace Go.Proofs.YtipbaajdnnddgaaGreat
open Go.RowKit Go.Tn Go.Tn.Bt Go.Tn.Lp Go.Tn.Dk
theorem live_write {d : Dsk} (i : Nat) (b : List Nat) :
    (d.dead = 7 ∧ (d.write i b).off = true ∧ (d.write i b).L = d.L ∧ (d.write i b).Q = d.Q) ∨ (d.dead = 0 ∧ (d.write i b).off = false ∧ (d.write i b).L = d.L ∧ (d.write i b).Q = d.Q ++ [(i, b)]) := by
  unfold Dsk.write Dsk.dead
  by_cases hs : d.step.off = true
  · rw [if_pos hs, if_pos hs]
    exact .inl ⟨rfl, hs, step_L d, step_Q d⟩
  · rw [if_neg hs, if_neg hs]
    exact .inr ⟨rfl, by simpa using hs, step_L d, rfl⟩
theorem live_flush {d : Dsk} :
    (d.dead = 7 ∧ d.flush.off = true ∧ d.flush.L = d.L ∧ d.flush.Q = d.Q) ∨ (d.dead = 0 ∧ d.flush.off = false ∧ d.flush.L = laid d.Q d.L ∧ d.flush.Q = []) := by
  unfold Dsk.flush Dsk.dead
  by_cases hs : d.step.off = true
  · rw [if_pos hs, if_pos hs]
    exact .inl ⟨rfl, hs, step_L d, step_Q d⟩
  · rw [if_neg hs, if_neg hs]
    exact .inr ⟨rfl, by simpa using hs, rfl, rfl⟩
theorem putPcs_live (n : Nat) : ∀ (ps : List Pc) (d : Dsk), d.off = false →
    ((putPcs n ps d).2 = 0 ∧ (putPcs n ps d).1.off = false ∧ (putPcs n ps d).1.L = d.L ∧ (putPcs n ps d).1.Q = d.Q ++ ringQ n ps) ∨
    ((putPcs n ps d).2 = 7 ∧ (putPcs n ps d).1.off = true ∧ (putPcs n ps d).1.L = d.L ∧ ∃ m, (putPcs n ps d).1.Q = d.Q ++ ringQ n (ps.take m))
  | [], d, h => .inl ⟨rfl, h, rfl, by simp [putPcs, ringQ]⟩
  | q :: r, d, _ => by
    simp only [putPcs]
    rcases live_write (d := d) (2 + q.ct % n) (sealB q) with ⟨h1, h2, h3, h4⟩ | ⟨h1, h2, h3, h4⟩
    · rw [if_pos (by rw [h1]; decide)]
      exact .inr ⟨h1, h2, h3, 0, by rw [h4]; simp [ringQ]⟩
    · rw [if_neg (by rw [h1]; decide)]
      rcases putPcs_live n r (d.write (2 + q.ct % n) (sealB q)) h2 with ⟨e1, e2, e3, e4⟩ | ⟨e1, e2, e3, m, e4⟩
      · exact .inl ⟨e1, e2, e3.trans h3, by rw [e4, h4]; simp [ringQ]⟩
      · exact .inr ⟨e1, e2, e3.trans h3, m + 1, by rw [e4, h4]; simp [ringQ]⟩
theorem bringGo_live (l : Lg) : ∀ (ks : List Nat) (d : Dsk), d.off = false →
    ((bringGo l ks d).2 = 0 ∧ (bringGo l ks d).1.off = false ∧ (bringGo l ks d).1.L = laid (d.Q ++ homeQ l ks) d.L ∧ (bringGo l ks d).1.Q = []) ∨
    ((bringGo l ks d).2 = 7 ∧ (bringGo l ks d).1.off = true ∧ (bringGo l ks d).1.L = d.L ∧ ∃ m, (bringGo l ks d).1.Q = d.Q ++ homeQ l (ks.take m))
  | [], d, _ => by
    simp only [bringGo]
    rcases live_flush (d := d) with ⟨h1, h2, h3, h4⟩ | ⟨h1, h2, h3, h4⟩
    · exact .inr ⟨h1, h2, h3, 0, by rw [h4]; simp [homeQ]⟩
    · exact .inl ⟨h1, h2, by rw [h3]; simp [homeQ], h4⟩
  | k :: ks, d, _ => by
    simp only [bringGo]
    rcases live_write (d := d) (2 + l.n + k) ((l.H k).getD []) with ⟨h1, h2, h3, h4⟩ | ⟨h1, h2, h3, h4⟩
    · rw [if_pos (by rw [h1]; decide)]
      exact .inr ⟨h1, h2, h3, 0, by rw [h4]; simp [homeQ]⟩
    · rw [if_neg (by rw [h1]; decide)]
      rcases bringGo_live l ks (d.write (2 + l.n + k) ((l.H k).getD [])) h2 with ⟨e1, e2, e3, e4⟩ | ⟨e1, e2, e3, m, e4⟩
      · exact .inl ⟨e1, e2, by rw [e3, h3, h4]; simp [homeQ], e4⟩
      · exact .inr ⟨e1, e2, e3.trans h3, m + 1, by rw [e4, h4]; simp [homeQ]⟩
theorem save_live (d : Dsk) (a ep : Nat) (x : Hd) :
    ((d.save a ep x).2 = 0 ∧ (d.save a ep x).1.off = false ∧ (d.save a ep x).1.L = laid (d.Q ++ [(a + x.gen % 2, sealB (headPc ep x))]) d.L ∧ (d.save a ep x).1.Q = []) ∨
    ((d.save a ep x).2 = 7 ∧ (d.save a ep x).1.off = true ∧ (d.save a ep x).1.L = d.L ∧ ((d.save a ep x).1.Q = d.Q ∨ (d.save a ep x).1.Q = d.Q ++ [(a + x.gen % 2, sealB (headPc ep x))])) := by
  unfold Dsk.save
  by_cases hs : d.step.off = true
  · rw [if_pos hs]
    exact .inr ⟨rfl, hs, step_L d, .inl (step_Q d)⟩
  · rw [if_neg hs]
    rcases live_write (d := d) (a + x.gen % 2) (sealB (headPc ep x)) with ⟨h1, h2, h3, h4⟩ | ⟨h1, h2, h3, h4⟩
    · exfalso
      unfold Dsk.dead at h1
      rw [if_neg hs] at h1
      cases h1
    · rcases live_flush (d := d.write (a + x.gen % 2) (sealB (headPc ep x))) with ⟨e1, e2, e3, e4⟩ | ⟨e1, e2, e3, e4⟩
      · exact .inr ⟨e1, e2, e3.trans h3, .inr (by rw [e4, h4])⟩
      · exact .inl ⟨e1, e2, by rw [e3, h3, h4], e4⟩
/-- The homes that records leave. -/
def homesOf (n : Nat) (d : Dsk) (H : Nat → Option (List Nat)) : List (List Nat) := (List.range (d.L.length - 2 - n)).map fun k => (H k).getD (d.get (2 + n + k))
theorem homesOf_same {n : Nat} {d d' : Dsk} {H : Nat → Option (List Nat)} (hL : d'.L.length = d.L.length) (h : ∀ k, k < d.L.length - 2 - n → H k = none → d'.get (2 + n + k) = d.get (2 + n + k)) : homesOf n d' H = homesOf n d H := by
  unfold homesOf
  rw [hL]
  refine List.map_congr_left fun k hk => ?_
  cases hH : H k with
  | some b => rfl
  | none => exact h k (List.mem_range.1 hk) hH
/-- What a crash may leave is one of these. -/
def Outs (n i : Nat) (d : Dsk) (S : List (List (List Nat))) : Prop := ∀ keep torn, ∃ gen tail F D, Says (d.crash keep torn) n gen tail F D ∧ gen ≤ i ∧ endCt tail D ≤ 100 * i ∧ F ≤ 16777215 ∧
  (∀ j, j < 2 + n → SectA (256 * i + 255) ((d.crash keep torn).get j)) ∧ homesOf n (d.crash keep torn) (applyH (fun _ => none) D) ∈ S
/-- The homes that the first ones of the records leave. -/
def steps (n : Nat) (d : Dsk) (D P : List Rc) : List (List (List Nat)) := (List.range (P.length + 1)).map fun j => homesOf n d (applyH (fun _ => none) (D ++ P.take j))
theorem steps_mem {n : Nat} {d : Dsk} {D P : List Rc} {j : Nat} (hj : j ≤ P.length) : homesOf n d (applyH (fun _ => none) (D ++ P.take j)) ∈ steps n d D P := List.mem_map.2 ⟨j, List.mem_range.2 (by omega), rfl⟩
theorem steps_snoc {n : Nat} {d : Dsk} {D P : List Rc} (r : Rc) : steps n d D (P ++ [r]) = steps n d D P ++ [homesOf n d (applyH (fun _ => none) (D ++ (P ++ [r])))] := by
  unfold steps
  rw [List.length_append, List.length_singleton, List.range_succ, List.map_append]
  congr 1
  · refine List.map_congr_left fun j hj => ?_
    have := List.mem_range.1 hj
    rw [List.take_append_of_le_length (by omega)]
  · rw [List.map_singleton, List.take_of_length_le (by simp)]
structure KLive (n i : Nat) (l : Lg) (d : Dsk) (S : List (List (List Nat))) : Prop where
  ex : ∃ F D P, Rg d l F D P ∧ F ≤ 16777215 ∧ S = steps n d.last D P
  kp : Keep d.last l
  on : d.off = false
  err : l.err = 0
  rn : l.n = n
  ep : l.epoch ≤ 256 * i + 1
  nx : l.next ≤ 100 * i
  gen : l.gen ≤ i
structure KDead (n i : Nat) (l : Lg) (d : Dsk) (S : List (List (List Nat))) : Prop where
  outs : Outs n i d S
  off : d.off = true
  err : l.err = 7
  rn : l.n = n
  fit : l.fit d
  nx : l.next ≤ 100 * i
  dok : d.ok
/-- Where the power is on: a crash leaves one of the states. -/
theorem live_outs {n i : Nat} {d : Dsk} {l : Lg} {F : Nat} {D P : List Rc} {m : Nat} (hb : Base d.last l F D) (hk : Keep d.last l) (hfit : l.fit d) (hd : d.ok) (hg : Goods (l.homes d) l.epoch (endCt l.tail D) P) (hroom : endCt (endCt l.tail D) P ≤ l.tail + l.n)
    (hQ : d.Q = ringQ l.n ((allPcs (endCt l.tail D) P).take m)) (hn : l.n = n) (hF : F ≤ 16777215) (hgen : l.gen ≤ i) (hnx : endCt (endCt l.tail D) P ≤ 100 * i) (hep : l.epoch ≤ 256 * i + 1) : Outs n i d (steps n d.last D P) := by
  intro keep torn
  subst hn
  obtain ⟨⟨j, hj, hs⟩, hse, hho⟩ := crash_ring (keep := keep) (torn := torn) hb hk hfit hd hg hroom hQ
  refine ⟨l.gen, l.tail, F, _, hs, hgen, ?_, hF, fun k hk => (hse k hk).mono (by omega), ?_⟩
  · rw [endCt_append]
    have h1 : endCt (endCt l.tail D) (P.take j) ≤ endCt (endCt l.tail D) P := by
      conv => rhs; rw [← List.take_append_drop j P]
      rw [endCt_append]
      have := endCt_le (P.drop j) (endCt (endCt l.tail D) (P.take j))
      omega
    omega
  · rw [homesOf_same (d := d.last) (crash_L d keep torn) fun k _ _ => hho k]
    exact steps_mem hj
end Go.Proofs.YtipbaajdnnddgaaGreat

/- A disk with a fuse: what a write leaves. Plain. -/
namespace Go.Proofs.YtipbaajdnnddgaaGreat
open Go.RowKit Go.Tn Go.Tn.Bt Go.Tn.Lp Go.Tn.Dk
theorem Base.congr {d d' : Dsk} {l l' : Lg} {F : Nat} {D : List Rc} (hb : Base d l F D) (ht : l.tail ≤ endCt l.tail D) (hL : d'.L.length = d.L.length) (hn2 : 2 ≤ l.n) (hg : ∀ i, i < 2 + l.n → d'.get i = d.get i) (h1 : l'.n = l.n) (h2 : l'.epoch = l.epoch) (h3 : l'.gen = l.gen) (h4 : l'.tail = l.tail) : Base d' l' F D := by
  have hlt : ∀ c, 2 + c % l.n < 2 + l.n := fun c => by have := Nat.mod_lt c (show 0 < l.n by omega); omega
  have hh : l'.homes d' = l.homes d := by unfold Lg.homes; rw [hL, h1]
  refine ⟨by rw [h3, h4]; exact hb.hd.same fun i hi => hg i (by omega), by rw [hh, h4]; exact hb.rise, fun q hq => ?_, by rw [h4, h1]; exact hb.room, by rw [h2]; exact hb.fle, ?_, fun c q c1 c2 hq => ?_⟩
  · rw [h4] at hq
    rw [h1, hg _ (hlt _)]
    exact hb.slots q hq
  · rw [h1, h2, h3, h4]
    exact hb.stop.imp id fun hs => stepB_same' hL ht (fun c _ _ => pieceB_same (hg _ (hlt _))) hs
  · rw [h4] at c1 c2
    rw [h1] at c2 hq
    rw [h2]
    exact hb.old c q c1 c2 ((pieceB_same (hg _ (hlt _))).symm.trans hq)
theorem Keep.congr {d d' : Dsk} {l l' : Lg} (h : Keep d l) (hg : ∀ i, i < 2 + l.n → d'.get i = d.get i) (h0 : ∀ i, i < 2 → d'.get i = d.get i) (h1 : l'.n = l.n) (h2 : l'.epoch = l.epoch) (h3 : l'.gen = l.gen) : Keep d' l' :=
  ⟨fun i hi => by rw [h1] at hi; rw [hg i hi, h2]; exact h.sect i hi, fun i hi p hp hpe => by rw [h0 i hi] at hp; rw [h2] at hpe; rw [h3]; exact h.hdct i hi p hp hpe, by rw [h2]; exact h.ep⟩
theorem homesB_of (l : Lg) (d : Dsk) : homesB l d = homesOf l.n d l.H := by
  unfold homesB homesOf
  exact List.map_congr_left fun k _ => home_getD l d k
/-- The homes that a log shows are those that its records leave. -/
theorem Rg.homes_eq {d : Dsk} {l : Lg} {F : Nat} {D P : List Rc} (h : Rg d l F D P) : homesB l d = homesOf l.n d.last (applyH (fun _ => none) (D ++ P)) := by
  rw [homesB_of, h.H]
  exact homesOf_same (d := d.last) rfl fun k _ _ => h.rest fun q _ => by have := h.fit.n2; have := Nat.mod_lt q.ct (show 0 < l.n by omega); omega
theorem steps_last {n : Nat} {d : Dsk} {D P : List Rc} : ∃ S0, steps n d D P = S0 ++ [homesOf n d (applyH (fun _ => none) (D ++ P))] := by
  unfold steps
  rw [List.range_succ, List.map_append, List.map_singleton, List.take_length]
  exact ⟨_, rfl⟩
theorem KLive.last {n i : Nat} {l : Lg} {d : Dsk} {S : List (List (List Nat))} (h : KLive n i l d S) : ∃ S0, S = S0 ++ [homesB l d] := by
  obtain ⟨F, D, P, hr, hF, rfl⟩ := h.ex
  obtain ⟨S0, e⟩ := steps_last (n := n) (d := d.last) (D := D) (P := P)
  exact ⟨S0, by rw [e, hr.homes_eq, h.rn]⟩
theorem KLive.mono {n i j : Nat} {l : Lg} {d : Dsk} {S : List (List (List Nat))} (h : KLive n i l d S) (hij : i ≤ j) : KLive n j l d S :=
  ⟨h.ex, h.kp, h.on, h.err, h.rn, by have := h.ep; omega, by have := h.nx; omega, by have := h.gen; omega⟩
theorem KDead.mono {n i j : Nat} {l : Lg} {d : Dsk} {S : List (List (List Nat))} (h : KDead n i l d S) (hij : i ≤ j) : KDead n j l d S :=
  ⟨fun keep torn => by
    obtain ⟨gen, tail, F, D, h1, h2, h3, h4, h5, h6⟩ := h.outs keep torn
    exact ⟨gen, tail, F, D, h1, by omega, by omega, h4, fun k hk => (h5 k hk).mono (by omega), h6⟩, h.off, h.err, h.rn, h.fit, by have := h.nx; omega, h.dok⟩
theorem KLive.outs {n i : Nat} {l : Lg} {d : Dsk} {S : List (List (List Nat))} (h : KLive n i l d S) : Outs n i d S := by
  obtain ⟨F, D, P, hr, hF, rfl⟩ := h.ex
  have hn := hr.next
  have h1 := hr.fit.next
  have h2 := h.nx
  refine live_outs (m := (allPcs (endCt l.tail D) P).length) hr.base h.kp hr.fit hr.dok hr.gs (by omega) (by rw [List.take_length]; exact hr.q) h.rn hF h.gen (by omega) h.ep
/-- A write where the power is on. -/
theorem klive_write {n i : Nat} {l : Lg} {d : Dsk} {S : List (List (List Nat))} (h : KLive n i l d S) (hi : i ≤ 1000) {ps : List Pt} (hb : ∀ p ∈ ps, ∀ x ∈ p.2, x < 256) (hok : (l.write d ps).2.1.ok) :
    ((l.write d ps).2.2 = 0 ∧ KLive n (i + 1) (l.write d ps).1 (l.write d ps).2.1 (S ++ [homesB (l.write d ps).1 (l.write d ps).2.1])) ∨
    ((l.write d ps).2.2 = 7 ∧ KDead n (i + 1) (l.write d ps).1 (l.write d ps).2.1 (S ++ [overB (homesB l d) ps])) ∨
    ((l.write d ps).2.2 ≠ 0 ∧ (l.write d ps).2.2 ≠ 7 ∧ (l.write d ps).1 = l ∧ (l.write d ps).2.1 = d) := by
  have h' := h
  obtain ⟨⟨F, D, P, hr, hF, hS⟩, hkp, hon, herr, hrn, hep, hnx, hgen⟩ := h
  cases ht : transB ps (l.homes d) with
  | false =>
    rw [write_arg herr ht]
    exact .inr (.inr ⟨by simp, by simp, rfl, rfl⟩)
  | true =>
    have hc := cut_ok (ep := l.epoch) (ct := l.next) ht (by omega) (by omega)
    by_cases hf : (cutL l.epoch l.next (recB ps)).length ≤ l.free
    · have hlen : (cutL l.epoch l.next (recB ps)).length = (⟨l.epoch, ps⟩ : Rc).n := by rw [cutL_len]; rfl
      have hsm : (cutL l.epoch l.next (recB ps)).length ≤ 100 := by
        have := recN ht
        rw [cutL_len]
        omega
      have hn := hr.next
      have hfr : l.free = l.n - (l.next - l.tail) := rfl
      have hl1 := hr.fit.tail
      have hl2 := hr.fit.next
      have hgs : Goods (l.homes d) l.epoch (endCt l.tail D) (P ++ [⟨l.epoch, ps⟩]) := (goods_append P _ _).2 ⟨hr.gs, rfl, ⟨ht, hb, by rw [← hn.2.1]; exact hc⟩, trivial⟩
      have hend : endCt (endCt l.tail D) (P ++ [⟨l.epoch, ps⟩]) = l.next + (cutL l.epoch l.next (recB ps)).length := by
        rw [endCt_append, ← hn.2.1, hlen]
        rfl
      have hX : homesOf n d.last (applyH (fun _ => none) (D ++ (P ++ [⟨l.epoch, ps⟩]))) = overB (homesB l d) ps := by
        rw [hr.homes_eq, ← List.append_assoc, applyH_append, hrn]
        unfold homesOf
        rw [over_take]
        · rfl
        · intro p hp
          have h1 := ((transB_iff ps _).1 ht).2.2.1 p hp
          have h2 : l.homes d = d.last.L.length - 2 - n := by unfold Lg.homes; rw [hrn]; rfl
          rw [h2] at h1
          exact ⟨h1.1, h1.2.1⟩
      have hpl := putPcs_live l.n (cutL l.epoch l.next (recB ps)) d hon
      have hw : l.write d ps = if (putPcs l.n (cutL l.epoch l.next (recB ps)) d).2 ≠ 0 then ({ l with err := (putPcs l.n (cutL l.epoch l.next (recB ps)) d).2 }, (putPcs l.n (cutL l.epoch l.next (recB ps)) d).1, (putPcs l.n (cutL l.epoch l.next (recB ps)) d).2)
          else ({ l with next := l.next + (cutL l.epoch l.next (recB ps)).length, H := takeH l.H ps }, (putPcs l.n (cutL l.epoch l.next (recB ps)) d).1, 0) := by
        unfold Lg.write
        rw [if_neg (by omega), if_neg (by rw [ht]; decide), hc]
        simp only
        rw [if_neg (by omega)]
      rw [hw] at hok ⊢
      generalize putPcs l.n (cutL l.epoch l.next (recB ps)) d = r at *
      obtain ⟨d', c⟩ := r
      simp only at hpl
      rcases hpl with ⟨rfl, p2, p3, p4⟩ | ⟨rfl, p2, p3, m, p4⟩
      · rw [if_neg (by simp)] at hok ⊢
        simp only at hok ⊢
        have hr' := hr.write ht hb hc hf p3 p4 hok
        have hlg : ∀ i, d'.last.get i = d.last.get i := fun i => by rw [last_get, last_get, p3]
        refine .inl ⟨trivial, ⟨F, D, _, hr', hF, ?_⟩, hkp.congr (fun i _ => hlg i) (fun i _ => hlg i) rfl rfl rfl, p2, herr, hrn, by simp only; omega, by simp only; omega, by simp only; omega⟩
        have e1 : ∀ H, homesOf n d'.last H = homesOf n d.last H := fun H => homesOf_same (by show d'.L.length = d.L.length; rw [p3]) fun k _ _ => hlg _
        rw [hr'.homes_eq, hS, steps_snoc]
        have e2 : steps n d'.last D P = steps n d.last D P := by
          unfold steps
          exact List.map_congr_left fun j _ => e1 _
        rw [e2]
        show _ = _
        rw [show ({ l with next := l.next + (cutL l.epoch l.next (recB ps)).length, H := takeH l.H ps } : Lg).n = n from hrn]
      · rw [if_pos (by simp)] at hok ⊢
        simp only at hok ⊢
        have hL : d'.L.length = d.L.length := by rw [p3]
        have hlg : ∀ i, d'.last.get i = d.last.get i := fun i => by rw [last_get, last_get, p3]
        have hfit := hr.fit.disk hL
        have hhd : l.homes d' = l.homes d := by unfold Lg.homes; rw [hL]
        have hb' : Base d'.last l F D := hr.base.congr (by omega) hL hr.fit.n2 (fun i _ => hlg i) rfl rfl rfl rfl
        have hk' : Keep d'.last l := hkp.congr (fun i _ => hlg i) (fun i _ => hlg i) rfl rfl rfl
        have ho := live_outs (n := n) (i := i + 1) (d := d') (l := l) (F := F) (D := D) (P := P ++ [⟨l.epoch, ps⟩]) (m := (allPcs (endCt l.tail D) P).length + m) hb' hk' hfit hok (by rw [hhd]; exact hgs) (by omega) (by
          rw [p4, hr.q, allPcs_append, List.take_append, List.take_of_length_le (l := allPcs (endCt l.tail D) P) (by omega), Nat.add_sub_cancel_left, ← hn.2.1]
          unfold ringQ
          rw [List.map_append]
          show _ = _ ++ List.map _ (List.take m ((⟨l.epoch, ps⟩ : Rc).pcs l.next ++ []))
          rw [List.append_nil]
          rfl) hrn hF (by omega) (by omega) (by omega)
        refine .inr (.inl ⟨trivial, ?_, p2, rfl, hrn, ⟨hfit.n2, hfit.nd, hfit.epoch, hfit.gen, hfit.tail, hfit.next, by simp only; decide, hfit.H⟩, by simp only; omega, hok⟩)
        rw [steps_snoc] at ho
        have e1 : ∀ H, homesOf n d'.last H = homesOf n d.last H := fun H => homesOf_same hL fun k _ _ => hlg _
        have e2 : steps n d'.last D P = steps n d.last D P := by
          unfold steps
          exact List.map_congr_left fun j _ => e1 _
        rw [e2, e1, hX, ← hS] at ho
        exact ho
    · rw [write_full herr ht hc (by omega)]
      exact .inr (.inr ⟨by simp, by simp, rfl, rfl⟩)
end Go.Proofs.YtipbaajdnnddgaaGreat

/- A disk with a fuse: Sync, a crash, a new disk. Plain. -/
namespace Go.Proofs.YtipbaajdnnddgaaGreat
open Go.RowKit Go.Tn Go.Tn.Bt Go.Tn.Lp Go.Tn.Dk
theorem Keep.flush {d d' : Dsk} {l l' : Lg} {F : Nat} {D P : List Rc} (h : Rg d l F D P) (hk : Keep d.last l) (hL : d'.L = laid d.Q d.L) (h1 : l'.n = l.n) (h2 : l'.epoch = l.epoch) (h3 : l'.gen = l.gen) : Keep d'.last l' := by
  have hnd := h.fit.nd
  have hg : ∀ i, i < d.L.length → d'.last.get i = d.get i := fun i hi => by
    rw [last_get, hL, laid_get _ _ _ hi]
    rfl
  have hpb := pcs_byte P _ h.gs
  refine ⟨fun i hi => ?_, fun i hi p hp hpe => ?_, by rw [h2]; exact hk.ep⟩
  · rw [h1] at hi
    rw [hg i (by omega), h2, get_last]
    rcases seen_or d.Q i (d.last.get i) with e | ⟨x, hx, _, e⟩
    · rw [e]
      exact hk.sect i hi
    · rw [e]
      rw [h.q] at hx
      obtain ⟨q, hq, rfl⟩ := List.mem_map.1 hx
      obtain ⟨hqo, hqb, hqe⟩ := hpb q hq
      have := seal_sect hqo hqb
      rw [hqe] at this
      exact this
  · rw [hg i (by omega), h.rest (fun q _ => by omega)] at hp
    rw [h3]
    exact hk.hdct i hi p hp (by rw [← h2]; exact hpe)
/-- Flushed: one state is left. -/
theorem klive_flush {n i : Nat} {l : Lg} {d : Dsk} {S : List (List (List Nat))} (h : KLive n i l d S) (hd : d.flush.ok) :
    (d.dead = 0 ∧ KLive n i l d.flush [homesB l d] ∧ homesB l d.flush = homesB l d ∧ d.flush.Q = []) ∨ (d.dead = 7 ∧ KDead n i { l with err := 7 } d.flush S) := by
  obtain ⟨F, D, P, hr, hF, hS⟩ := h.ex
  rcases live_flush (d := d) with ⟨h1, h2, h3, h4⟩ | ⟨h1, h2, h3, h4⟩
  · have hL : d.flush.L.length = d.L.length := by rw [h3]
    have hlg : ∀ j, d.flush.last.get j = d.last.get j := fun j => by rw [last_get, last_get, h3]
    have hn := hr.next
    have hf1 := hr.fit.next
    have hf2 := h.nx
    have hfit := hr.fit.disk hL
    have hhd : l.homes d.flush = l.homes d := by unfold Lg.homes; rw [hL]
    have ho := live_outs (n := n) (i := i) (d := d.flush) (l := l) (F := F) (D := D) (P := P) (m := (allPcs (endCt l.tail D) P).length) (hr.base.congr (by omega) hL hr.fit.n2 (fun j _ => hlg j) rfl rfl rfl rfl) (h.kp.congr (fun j _ => hlg j) (fun j _ => hlg j) rfl rfl rfl) hfit hd (by rw [hhd]; exact hr.gs) (by omega) (by rw [List.take_length, h4]; exact hr.q) h.rn hF h.gen (by omega) h.ep
    refine .inr ⟨h1, ?_, h2, rfl, h.rn, ⟨hfit.n2, hfit.nd, hfit.epoch, hfit.gen, hfit.tail, hfit.next, by simp, hfit.H⟩, h.nx, hd⟩
    have e2 : steps n d.flush.last D P = steps n d.last D P := by
      unfold steps
      exact List.map_congr_left fun j _ => homesOf_same hL fun k _ _ => hlg _
    rw [e2, ← hS] at ho
    exact ho
  · have hr' := hr.flush h3 h4 hd
    have hho : homesB l d.flush = homesB l d := by
      rw [homesB_of, homesB_of]
      refine homesOf_same (flush_L d) fun k hk _ => flush_get h3 h4 (by omega)
    refine .inl ⟨h1, ⟨⟨F, _, _, hr', hF, ?_⟩, Keep.flush hr h.kp h3 rfl rfl rfl, h2, h.err, h.rn, h.ep, h.nx, h.gen⟩, hho, h4⟩
    rw [← hho, hr'.homes_eq, h.rn]
    rfl
theorem klive_sync {n i : Nat} {l : Lg} {d : Dsk} {S : List (List (List Nat))} (h : KLive n i l d S) (hok : (l.sync d).2.ok) :
    ((l.sync d).1.err = 0 ∧ KLive n i (l.sync d).1 (l.sync d).2 [homesB l d] ∧ homesB (l.sync d).1 (l.sync d).2 = homesB l d) ∨ ((l.sync d).1.err = 7 ∧ KDead n i (l.sync d).1 (l.sync d).2 S) := by
  have hs : l.sync d = ({ l with err := d.dead }, d.flush) := by
    unfold Lg.sync
    rw [if_neg (by have := h.err; omega)]
  rw [hs] at hok ⊢
  simp only at hok ⊢
  have he := h.err
  obtain ⟨ln, le, lg, lt, lx, lH, lr⟩ := l
  simp only at he
  subst he
  rcases klive_flush h hok with ⟨h1, h2, h3, -⟩ | ⟨h1, h2⟩
  · rw [h1]
    exact .inl ⟨rfl, h2, h3⟩
  · rw [h1]
    exact .inr ⟨rfl, h2⟩
/-- Behind a crash: opened, one of the states. -/
theorem kcrash {n i : Nat} {d : Dsk} {S : List (List (List Nat))} (ho : Outs n i d S) (hd : d.ok) (hn2 : 2 ≤ n) (hnd : n + 3 ≤ d.L.length) (hi : i ≤ 200) (keep : List Int) (torn : Int) :
    ∃ l2, openB (d.crash keep torn) n = some l2 ∧ newestB (d.crash keep torn) (2 + n) < 16777215 ∧ KLive n (i + 1) l2 (d.crash keep torn) [homesB l2 (d.crash keep torn)] ∧ homesB l2 (d.crash keep torn) ∈ S := by
  obtain ⟨gen, tail, F, D, hs, hg, ht, hF, hse, hm⟩ := ho keep torn
  have hdc := hd.crash keep torn
  have hL := crash_L d keep torn
  obtain ⟨l2, ho2, e1, e2, e3, e4, e5, e6, e7, e8, hr, hk⟩ := hs.open_ hdc (crash_Q d keep torn) hn2 (by omega) (by omega) hF hse (by omega)
  have hh := hr.homes_eq
  rw [List.append_nil, last_of_none (crash_Q d keep torn), e1] at hh
  refine ⟨l2, ho2, e8, ⟨⟨F, D, [], hr, hF, ?_⟩, hk, rfl, e7, e1, by omega, by omega, by omega⟩, by rw [hh]; exact hm⟩
  rw [hr.homes_eq, e1]
  rfl
theorem kinit {n size : Nat} (h1 : 2 ≤ n) (h2 : n + 4 ≤ size) (h3 : size ≤ 4096) : KLive n 0 (log0 n 1 0 0) (newD size) [homesB (log0 n 1 0 0) (newD size)] := by
  have hok := newD_ok (n := size) (by omega) (by omega)
  have hL : (newD size).L.length = size := by simp [newD]
  have hz : ∀ i, i < 2 + n → SectA 0 ((newD size).get i) := fun i hi => by
    rw [newd_get (by omega)]
    refine ⟨List.length_replicate, fun x hx => ?_, ?_, ?_, ?_⟩
    · rw [List.eq_of_mem_replicate hx]
      decide
    all_goals decide
  have hr : Rg (newD size) (log0 n 1 0 0) 1 [] [] := by
    refine ⟨(log0_fit (by omega) (by omega) (by decide) (by decide)), hok, ⟨.inr ⟨head_zero (by omega), rfl, rfl, rfl⟩, trivial, (fun q hq => by cases hq), Nat.le_add_right _ _, Nat.le_refl _, .inl rfl, fun c q c1 c2 hq => ?_⟩, rfl, trivial, rfl, rfl⟩
    have c2 : c < 0 + n := c2
    have hq : pieceB (newD size) n c = some q := hq
    show q.ep < 1
    have hm := Nat.mod_lt c (show 0 < n by omega)
    unfold pieceB at hq
    rw [newd_get (by omega), unseal_zero] at hq
    simp only at hq
    split at hq
    · cases hq
      decide
    · cases hq
  refine ⟨⟨1, [], [], hr, by decide, ?_⟩, ⟨fun i hi => ((hz i hi).next (Nat.lt_succ_self 0) : Sect 1 ((newD size).get i)), fun i hi p hp hpe => ?_, by show 1 < 65536; decide⟩, rfl, rfl, rfl, by show 1 ≤ 256 * 0 + 1; decide, Nat.zero_le _, Nat.zero_le _⟩
  · rw [hr.homes_eq]
    rfl
  · have hp : unsealB ((newD size).get i) = some p := hp
    rw [newd_get (by omega), unseal_zero] at hp
    cases hp
    exact Nat.le_refl _
end Go.Proofs.YtipbaajdnnddgaaGreat
