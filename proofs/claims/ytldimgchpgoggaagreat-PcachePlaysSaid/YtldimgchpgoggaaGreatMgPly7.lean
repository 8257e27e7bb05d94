import Derived.Test.YtldimgchpgoggaaGreatMgPly6
import Derived.OwnWalk
import Derived.Laws.CopyRow
import Derived.Laws.IdiomCopy
import Derived.Laws.BytesArg
namespace Go.Tn.Lp
def flStep (s : Nat × Nat) (c : Nat) : Nat × Nat := ((s.1 + c) % 65535, (s.2 + (s.1 + c) % 65535) % 65535)
def flOf (s : Nat) : Nat × Nat := (s % 65536 % 65535, s / 65536 % 65535)
def fadd (s : Nat) (b : List Nat) : Nat := (b.foldl flStep (flOf s)).2 * 65536 + (b.foldl flStep (flOf s)).1
def fsum (b : List Nat) : Nat := fadd 0 b
theorem flStep_lt (s : Nat × Nat) (c : Nat) : (flStep s c).1 < 65535 ∧ (flStep s c).2 < 65535 := ⟨Nat.mod_lt _ (by decide), Nat.mod_lt _ (by decide)⟩
theorem flOf_lt (s : Nat) : (flOf s).1 < 65535 ∧ (flOf s).2 < 65535 := ⟨Nat.mod_lt _ (by decide), Nat.mod_lt _ (by decide)⟩
theorem fold_lt : ∀ (b : List Nat) (s : Nat × Nat), s.1 < 65535 ∧ s.2 < 65535 → (b.foldl flStep s).1 < 65535 ∧ (b.foldl flStep s).2 < 65535
 | [], _, h => h
 | c :: b, s, _ => fold_lt b _ (flStep_lt s c)
theorem fadd_lt (s : Nat) (b : List Nat) : fadd s b < 4294967296 := by
 have := fold_lt b _ (flOf_lt s)
 unfold fadd
 omega
theorem fsum_lt (b : List Nat) : fsum b < 4294967296 := fadd_lt 0 b
end Go.Tn.Lp
namespace Go.Proofs.YtldimgchpgoggaaGreat
open Go.RowKit Go.Tn Go.Tn.Bt Go.Tn.Lp
theorem aggH (f s : Int) : AggT Tryz.prog 236 (#[.int .u32 f, .int .u32 s] : Array Value).size := ⟨⟨_, Tryz.underlying236, rfl⟩, by kernel_rfl⟩
theorem fof_any (w : World) (s : Nat) (hs : s < 4294967296) : Calls Tryz.prog 175 #[.int .u32 s] w
   fun e w' => e = .returned (.agg #[.int .u32 ((flOf s).1 : Nat), .int .u32 ((flOf s).2 : Nat)]) ∧ Below w.heap.size w w' := by
 have ha := and32 s 65535 hs (by decide)
 rw [show s &&& 65535 = s % 65536 from Nat.and_two_pow_sub_one_eq_mod s 16] at ha
 have hs' : (s : Int) < 4294967296 := by omega
 have ha' : bits .and .u32 (s : Int) 65535 = ((s % 65536 : Nat) : Int) := ha
 clear ha
 have hm : s % 65536 < 65536 := Nat.mod_lt _ (by decide)
 unfold flOf
 simp only
 generalize hq : s % 65536 = q at *
 have hd : (s : Int) / 65536 = ((s / 65536 : Nat) : Int) := by omega
 have hdl : s / 65536 < 65536 := by omega
 generalize s / 65536 = d at *
 go_enter Tryz.func175, Tryz.ntmps175
 go_wp2
 (try simp only [Exit.inBlock, Exit.then])
 refine bodyPost_ret (results_cellA rfl _ rfl (aggH _ _) (lies_of heap_alloc_at)) rfl ?_
 refine ⟨?_, (Below.refl _ _).alloc (Nat.le_refl _) _⟩
 rw [show (q : Int) % 65535 = ((q % 65535 : Nat) : Int) by omega, show (d : Int) % 65535 = ((d % 65535 : Nat) : Int) by omega]
theorem ftake_any (w : World) (f s c : Nat) (hf : f < 65535) (hs : s < 65535) (hc : c < 256) : Calls Tryz.prog 176 #[.agg #[.int .u32 f, .int .u32 s], .int .u8 c] w
   fun e w' => e = .returned (.agg #[.int .u32 ((flStep (f, s) c).1 : Nat), .int .u32 ((flStep (f, s) c).2 : Nat)]) ∧ Below w.heap.size w w' := by
 have hf' : (f : Int) < 65535 := by omega
 have hs' : (s : Int) < 65535 := by omega
 have hc' : (c : Int) < 256 := by omega
 go_enter Tryz.func176, Tryz.ntmps176
 go_wp2
 (try simp only [Exit.inBlock, Exit.then])
 have e : ∀ o, (w.alloc o).heap.size = w.heap.size + 1 := fun o => by simp
 refine bodyPost_ret (results_cellA rfl _ rfl (aggH ((f + c : Int) % 65535) ((s + (f + c) : Int) % 65535)) (lies_of (t := 236) (fr := (0, 0)) ?_)) rfl ?_
 · rw [← e]
   exact heap_alloc_at
 refine ⟨?_, ((Below.refl _ _).alloc (Nat.le_refl _) _).alloc (by simp) _⟩
 unfold flStep
 simp only
 rw [show ((f : Int) + c) % 65535 = (((f + c) % 65535 : Nat) : Int) by omega, show ((s : Int) + (f + c)) % 65535 = (((s + (f + c) % 65535) % 65535 : Nat) : Int) by omega]
theorem fwhole_any (w : World) (f s : Nat) (hf : f < 65535) (hs : s < 65535) : Calls Tryz.prog 177 #[.agg #[.int .u32 f, .int .u32 s]] w
   fun e w' => e = .returned (.int .u32 (s * 65536 + f : Nat)) ∧ Below w.heap.size w w' := by
 have hf' : (f : Int) < 65535 := by omega
 have hs' : (s : Int) < 65535 := by omega
 have hor : bits .or .u32 ((s : Int) * 65536) (f : Int) = ((s * 65536 + f : Nat) : Int) := by
   have h := or32 (s * 65536) f (by omega) (by omega)
   rw [show s * 65536 ||| f = s * 65536 + f from or_add s f 16 (by omega)] at h
   rw [← h]
   rfl
 go_enter Tryz.func177, Tryz.ntmps177
 go_wp2
 go_ret
 exact ⟨rfl, (Below.refl _ _).alloc (Nat.le_refl _) _⟩
theorem fadd_any (w : World) (s : Nat) (hs : s < 4294967296) (v : Value) (bs : List Nat) (h : LSl en8 1 w v bs) (hlt : ∀ x ∈ bs, x < 256) (hl : bs.length ≤ 50000) : Calls Tryz.prog 166 #[.int .u32 s, v] w
   fun e w' => e = .returned (.int .u32 (fadd s bs : Nat)) ∧ Below w.heap.size w w' := by
 obtain ⟨ao, cap, rfl, h1, h2, h3⟩ := h
 unfold maxLen at h2
 go_enter Tryz.func166, Tryz.ntmps166
 go_wp2_with fail
 refine (fof_any w s hs).mono ?_
 rintro e w2 ⟨rfl, hb2⟩
 have hb3 : Below w.heap.size w (w2.alloc (.cells #[.int .u32 ((flOf s).1 : Nat), .int .u32 ((flOf s).2 : Nat)] 236)) := hb2.alloc hb2.size _
 have hH : (w2.alloc (.cells #[.int .u32 ((flOf s).1 : Nat), .int .u32 ((flOf s).2 : Nat)] 236)).heap[w2.heap.size]? = some (.cells #[.int .u32 ((flOf s).1 : Nat), .int .u32 ((flOf s).2 : Nat)] 236 (0, 0)) := heap_alloc_at
 have hbz := hb2.size
 clear hb2
 go_wp2_with fail
 go_loopw [12] (fun jv wi => ∃ k : Nat, k ≤ bs.length ∧ jv = .int .i64 k ∧ wi.heap[w2.heap.size]? = some (.cells #[.int .u32 (((bs.take k).foldl flStep (flOf s)).1 : Nat), .int .u32 (((bs.take k).foldl flStep (flOf s)).2 : Nat)] 236 (0, 0)) ∧ Below w.heap.size w wi) (fun jv _ => bs.length - (intOf jv).toNat)
 case atStart => exact ⟨0, Nat.zero_le _, rfl, hH, hb3⟩
 case round =>
   obtain ⟨k, hk, rfl, hH, hb⟩ := hrel
   clear hb3
   have hft := fold_lt (bs.take k) _ (flOf_lt s)
   by_cases hkl : k < bs.length
   · have hkl' : (k : Int) < (bs.length : Int) := by omega
     obtain ⟨c, hc⟩ : ∃ c, bs[k]? = some c := ⟨bs[k], List.getElem?_eq_getElem hkl⟩
     have hc8 := hlt c (List.mem_of_getElem? hc)
     obtain ⟨b, off, rfl, hbl, hcells⟩ := h3 (by omega)
     have hcell := (hcells k c hc).below' hb hbl 0 (by simp)
     simp only [Nat.mul_one, Nat.add_zero] at hcell
     have hnx : (bs.take (k + 1)).foldl flStep (flOf s) = flStep ((bs.take k).foldl flStep (flOf s)) c := by
       rw [List.take_add_one, hc]
       simp [List.foldl_append]
     obtain ⟨⟨f, g⟩, hfg⟩ : ∃ x, (bs.take k).foldl flStep (flOf s) = x := ⟨_, rfl⟩
     rw [hfg] at hH hft hnx
     simp only at hH hft
     have c0 : wr.cell? ⟨w2.heap.size, 0, none⟩ = some (.int .u32 f) := cell_of hH rfl
     have c1 : wr.cell? ⟨w2.heap.size, 1, none⟩ = some (.int .u32 g) := cell_of hH rfl
     have HC : wr.cell? ⟨b, off + k, none⟩ = some (.int .u8 (c : Nat)) := hcell
     have HB := Lib.hid hb
     have HH := Lib.hid hH
     have HNX := Lib.hid hnx
     have ht := ftake_any wr f g c hft.1 hft.2 hc8
     have hzlt := lt_of_block hH
     clear hb hH hnx hfg hcells hcell hc
     go_wp2_with fail
     refine ht.mono ?_
     rintro e w4 ⟨rfl, hb4⟩
     have hH4 := (hb4.block _ hzlt).trans HH.out
     have d0 : w4.cell? ⟨w2.heap.size, 0, none⟩ = some (.int .u32 f) := cell_of hH4 rfl
     have d1 : w4.cell? ⟨w2.heap.size, 1, none⟩ = some (.int .u32 g) := cell_of hH4 rfl
     have hf4 : ∀ o, w4.frozen? ⟨w2.heap.size, o, none⟩ = false := fun o => free_of hH4
     have HH4 := Lib.hid hH4
     have HB4 := Lib.hid (HB.out.trans (hb4.mono HB.out.size))
     clear hb4 hH4 ht c0 c1 HC
     generalize flStep (f, g) c = fg2 at *
     go_wp2
     go_roundw
     case rel =>
       refine ⟨k + 1, by omega, by go_num, ?_, ?_⟩
       · rw [HNX.out]
         exact heap_setCell_at (heap_setCell_at HH4.out)
       · exact (HB4.out.setCell (p := ⟨w2.heap.size, 0, none⟩) hbz _).setCell (p := ⟨w2.heap.size, 1, none⟩) hbz _
     case measure => simp [intOf]; omega
   · obtain rfl : k = bs.length := by omega
     rw [List.take_length] at hH hft
     have c0 : wr.cell? ⟨w2.heap.size, 0, none⟩ = _ := cell_of hH rfl
     have c1 : wr.cell? ⟨w2.heap.size, 1, none⟩ = _ := cell_of hH rfl
     have hw := fwhole_any wr _ _ hft.1 hft.2
     have HB := Lib.hid hb
     obtain ⟨z, hz⟩ : ∃ z, (bs.foldl flStep (flOf s)).2 * 65536 + (bs.foldl flStep (flOf s)).1 = z := ⟨_, rfl⟩
     have HE : Hid (fadd s bs = z) := Lib.hid hz
     rw [hz] at hw
     clear hb hH hz
     generalize bs.foldl flStep (flOf s) = x at *
     go_wp2_with fail
     refine hw.mono ?_
     rintro e w4 ⟨rfl, hb4⟩
     go_wp2
     go_ret
     exact ⟨by rw [HE.out]; rfl, HB.out.trans (hb4.mono HB.out.size)⟩
theorem fsum_any (w : World) (v : Value) (bs : List Nat) (h : LSl en8 1 w v bs) (hlt : ∀ x ∈ bs, x < 256) (hl : bs.length ≤ 50000) : Calls Tryz.prog 152 #[v] w
   fun e w' => e = .returned (.int .u32 (fsum bs : Nat)) ∧ Below w.heap.size w w' := by
 have ha := fadd_any w 0 (by decide) v bs h hlt hl
 obtain ⟨ao, cap, rfl, _⟩ := h
 unfold fsum
 generalize fadd 0 bs = x at *
 go_enter Tryz.func152, Tryz.ntmps152
 go_wp2_with fail
 refine ha.mono ?_
 rintro e w2 ⟨rfl, hb2⟩
 go_wp2
 go_ret
 exact ⟨rfl, hb2⟩
end Go.Proofs.YtldimgchpgoggaaGreat
namespace Go.Tn.Lp
open Go.RowKit
def bytesN (x : Nat) : Nat → List Nat
 | 0 => []
 | n + 1 => x / 256 ^ n % 256 :: bytesN x n
theorem bytesN_len (x : Nat) : ∀ n, (bytesN x n).length = n
 | 0 => rfl
 | n + 1 => by simp [bytesN, bytesN_len x n]
theorem bytesN_get (x : Nat) : ∀ (n k : Nat), k < n → (bytesN x n)[k]? = some (x / 256 ^ (n - 1 - k) % 256)
 | n + 1, 0, _ => by simp [bytesN]
 | n + 1, k + 1, h => by
   have := bytesN_get x n k (by omega)
   simp only [bytesN, List.getElem?_cons_succ, this]
   rw [show n + 1 - 1 - (k + 1) = n - 1 - k by omega]
theorem bytesN_lt (x : Nat) : ∀ n, ∀ b ∈ bytesN x n, b < 256
 | 0, _, h => by cases h
 | n + 1, b, h => by
   rcases List.mem_cons.1 h with rfl | h
   · exact Nat.mod_lt _ (by decide)
   · exact bytesN_lt x n b h
def writeAt (L : List Nat) (o : Nat) : List Nat → List Nat
 | [] => L
 | b :: r => writeAt (L.set o b) (o + 1) r
theorem writeAt_len : ∀ (bs : List Nat) (L : List Nat) (o : Nat), (writeAt L o bs).length = L.length
 | [], _, _ => rfl
 | b :: r, L, o => by simp [writeAt, writeAt_len r]
theorem writeAt_snoc : ∀ (bs : List Nat) (L : List Nat) (o b : Nat), writeAt L o (bs ++ [b]) = (writeAt L o bs).set (o + bs.length) b
 | [], _, _, _ => by simp [writeAt]
 | c :: r, L, o, b => by
   simp only [List.cons_append, writeAt, writeAt_snoc r, List.length_cons]
   rw [show o + 1 + r.length = o + (r.length + 1) by omega]
theorem writeAt_eq : ∀ (bs : List Nat) (L : List Nat) (o : Nat), o + bs.length ≤ L.length → writeAt L o bs = L.take o ++ bs ++ L.drop (o + bs.length)
 | [], L, o, _ => by simp [writeAt]
 | b :: r, L, o, h => by
   rw [List.length_cons] at h
   simp only [writeAt]
   rw [writeAt_eq r (L.set o b) (o + 1) (by rw [List.length_set]; omega)]
   have h1 : (L.set o b).take (o + 1) = L.take o ++ [b] := by
     rw [List.take_add_one, List.take_set_of_le (Nat.le_refl o), List.getElem?_set_self (by omega)]
     simp
   have h2 : (L.set o b).drop (o + 1 + r.length) = L.drop (o + (b :: r).length) := by
     rw [List.drop_set_of_lt (by omega), List.length_cons, show o + 1 + r.length = o + (r.length + 1) by omega]
   rw [h1, h2]
   simp
theorem writeAt_lt {bs L : List Nat} {o : Nat} (hL : ∀ x ∈ L, x < 256) (hb : ∀ x ∈ bs, x < 256) (h : o + bs.length ≤ L.length) : ∀ x ∈ writeAt L o bs, x < 256 := fun x hx => by
 rw [writeAt_eq bs L o h] at hx
 rcases List.mem_append.1 hx with hx | hx
 · rcases List.mem_append.1 hx with hx | hx
   · exact hL x (List.mem_of_mem_take hx)
   · exact hb x hx
 · exact hL x (List.mem_of_mem_drop hx)
def numOf (b : List Nat) : Nat := b.foldl (fun x c => x * 256 + c) 0
theorem numOf_snoc (b : List Nat) (c : Nat) : numOf (b ++ [c]) = numOf b * 256 + c := by simp [numOf, List.foldl_append]
theorem numOf_lt : ∀ (n : Nat) (b : List Nat), b.length = n → (∀ x ∈ b, x < 256) → numOf b < 256 ^ n
 | 0, b, h, _ => by
   have : b = [] := List.eq_nil_of_length_eq_zero h
   subst this
   decide
 | n + 1, b, h, hb => by
   obtain ⟨i, c, rfl⟩ : ∃ i c, b = i ++ [c] := ⟨b.dropLast, b.getLast (fun e => by rw [e] at h; simp at h), (List.dropLast_concat_getLast _).symm⟩
   have h1 := numOf_lt n i (by simp at h; exact h) fun x hx => hb x (List.mem_append_left _ hx)
   have h2 := hb c (by simp)
   rw [numOf_snoc, Nat.pow_succ]
   omega
end Go.Tn.Lp
namespace Go.Proofs.YtldimgchpgoggaaGreat
open Go.RowKit Go.Tn Go.Tn.Bt Go.Tn.Lp
def cells8 (L : List Nat) : Array Value := (L.map fun b => Value.int .u8 ((b : Nat) : Int)).toArray
theorem cells8_get {L : List Nat} {i b : Nat} (h : L[i]? = some b) : (cells8 L)[i]? = some (.int .u8 (b : Nat)) := by simp [cells8, h]
theorem cells8_set (L : List Nat) (i b : Nat) : (cells8 L).setIfInBounds i (.int .u8 (b : Nat)) = cells8 (L.set i b) := by simp [cells8, List.map_set]
def Bk (w : World) (r : Nat) (L : List Nat) : Prop := w.heap[r]? = some (.cells (cells8 L) 5 (0, 0))
theorem Bk.cell {w : World} {r : Nat} {L : List Nat} (h : Bk w r L) {i b : Nat} (hi : L[i]? = some b) : w.cell? ⟨r, i, none⟩ = some (.int .u8 (b : Nat)) := cell_of h (cells8_get hi)
theorem Bk.free {w : World} {r : Nat} {L : List Nat} (h : Bk w r L) (o : Nat) : w.frozen? ⟨r, o, none⟩ = false := free_of h
theorem Bk.set {w : World} {r : Nat} {L : List Nat} (h : Bk w r L) (i b : Nat) : Bk (w.setCell ⟨r, i, none⟩ (.int .u8 (b : Nat))) r (L.set i b) := by
 unfold Bk
 rw [← cells8_set]
 exact heap_setCell_at h
theorem Bk.lt {w : World} {r : Nat} {L : List Nat} (h : Bk w r L) : r < w.heap.size := lt_of_block h
theorem Bk.below {w w' : World} {r : Nat} {L : List Nat} (h : Bk w r L) (hb : Below w.heap.size w w') : Bk w' r L := (hb.block r h.lt).trans h
theorem Bk.sl {w : World} {r : Nat} {L : List Nat} (h : Bk w r L) {o n cap : Nat} (h1 : o + n ≤ L.length) (h2 : n ≤ cap) (h3 : cap ≤ 1000) : LSl en8 1 w (.slice (some ⟨r, o, none⟩) n cap) ((L.drop o).take n) := by
 have hl : ((L.drop o).take n).length = n := by rw [List.length_take, List.length_drop]; omega
 refine ⟨_, cap, by rw [hl], by omega, by unfold maxLen; omega, fun _ => ⟨r, o, rfl, h.lt, fun i x hi j hj => ?_⟩⟩
 have hj0 : j = 0 := by simp at hj; exact hj
 subst hj0
 have hi' : L[o + i]? = some x := by
   rw [List.getElem?_take] at hi
   split at hi
   · rw [List.getElem?_drop] at hi
     exact hi
   · cases hi
 rw [Nat.mul_one, Nat.add_zero]
 exact h.cell hi'
theorem byte_cast (x m : Nat) : (x : Int) / 256 ^ m % 256 = ((x / 256 ^ m % 256 : Nat) : Int) := by
 rw [Int.natCast_emod, Int.natCast_ediv, Int.natCast_pow]
 rfl
theorem number_any (w : World) (r : Nat) (L : List Nat) (h : Bk w r L) (x n o cap : Nat) (hx : x < 2 ^ 64) (hn : n ≤ 8) (hc : n ≤ cap) (hcm : cap ≤ 1000) (ho : o + n ≤ L.length) (hoL : L.length ≤ 1000) :
   Calls Tryz.prog 150 #[.slice (some ⟨r, o, none⟩) n cap, .int .u64 x] w
   fun e w' => e = .returned (.tuple #[]) ∧ Bk w' r (writeAt L o (bytesN x n)) ∧ Mod (fun x => x = r) w w' := by
 go_enter Tryz.func150, Tryz.ntmps150
 go_wp2
 go_loopw [7] (fun jv wi => ∃ k : Nat, k ≤ n ∧ jv = .int .i64 k ∧ Bk wi r (writeAt L o ((bytesN x n).take k)) ∧ Mod (fun x => x = r) w wi) (fun jv _ => n - (intOf jv).toNat)
 case atStart => exact ⟨0, Nat.zero_le _, rfl, h, Mod.refl _ _⟩
 case round =>
   obtain ⟨k, hk, rfl, hb, hm⟩ := hrel
   by_cases hkn : k < n
   · have hkn' : (k : Int) < (n : Int) := by omega
     have hn8 : (n : Int) ≤ 8 := by omega
     have hk0 : (0 : Int) ≤ k := by omega
     have hnx : (bytesN x n).take (k + 1) = (bytesN x n).take k ++ [x / 256 ^ (n - 1 - k) % 256] := by
       rw [List.take_add_one, bytesN_get x n k hkn]
       rfl
     have hlk : ((bytesN x n).take k).length = k := by rw [List.length_take, bytesN_len]; omega
     have hlen : (writeAt L o ((bytesN x n).take k)).length = L.length := writeAt_len _ _ _
     obtain ⟨old, hold⟩ : ∃ old, (writeAt L o ((bytesN x n).take k))[o + k]? = some old := ⟨_, List.getElem?_eq_getElem (by rw [hlen]; omega)⟩
     have hcell := hb.cell hold
     have hfr := hb.free (o + k)
     have hset := hb.set (o + k) (x / 256 ^ (n - 1 - k) % 256)
     have hw1 : IntKind.i64.wrap (8 * ((n : Int) - 1 - k)) = ((8 * (n - 1 - k) : Nat) : Int) := by rw [IntWalk.i64_in _ (by omega)]; omega
     have hby : IntKind.u8.wrap ((x : Int) / 2 ^ (8 * (n - 1 - k))) = ((x / 256 ^ (n - 1 - k) % 256 : Nat) : Int) := by
       have e : ((x : Int) / 2 ^ (8 * (n - 1 - k))) = ((x / 2 ^ (8 * (n - 1 - k)) : Nat) : Int) := by norm_cast
       rw [e, wrap8, Nat.pow_mul]
     have HM := Lib.hid hm
     have HS := Lib.hid hset
     have HN : Hid (writeAt L o ((bytesN x n).take (k + 1)) = (writeAt L o ((bytesN x n).take k)).set (o + k) (x / 256 ^ (n - 1 - k) % 256)) := Lib.hid (by rw [hnx, writeAt_snoc, hlk])
     clear hb hm hset hnx hlk hlen hold
     go_wp2
     rw [byte_cast]
     refine ⟨⟨k + 1, by omega, by go_num, ?_, ?_⟩, by simp [intOf]; omega⟩
     · rw [HN.out]
       exact HS.out
     · exact HM.out.setCell _ _ fun _ => rfl
   · obtain rfl : k = n := by omega
     have e : (bytesN x k).take k = bytesN x k := List.take_of_length_le (by rw [bytesN_len]; omega)
     rw [e] at hb
     have HB := Lib.hid hb
     have HM := Lib.hid hm
     clear hb hm e
     go_wp2
     go_end0
     exact ⟨rfl, HB.out, HM.out⟩
theorem read_any (w : World) (v : Value) (bs : List Nat) (h : LSl en8 1 w v bs) (hlt : ∀ x ∈ bs, x < 256) (hl : bs.length ≤ 8) : Calls Tryz.prog 142 #[v] w
   fun e w' => e = .returned (.int .u64 (numOf bs : Nat)) ∧ w' = w := by
 obtain ⟨ao, cap, rfl, h1, h2, h3⟩ := h
 unfold maxLen at h2
 go_enter Tryz.func142, Tryz.ntmps142
 go_wp2
 go_loopw [3, 8] (fun xv jv wi => ∃ k : Nat, k ≤ bs.length ∧ jv = .int .i64 k ∧ xv = .int .u64 (numOf (bs.take k) : Nat) ∧ wi = w) (fun _ jv _ => bs.length - (intOf jv).toNat)
 case atStart => exact ⟨0, Nat.zero_le _, rfl, rfl, rfl⟩
 case round =>
   obtain ⟨k, hk, rfl, rfl, rfl⟩ := hrel
   by_cases hkl : k < bs.length
   · have hkl' : (k : Int) < (bs.length : Int) := by omega
     obtain ⟨c, hc⟩ : ∃ c, bs[k]? = some c := ⟨bs[k], List.getElem?_eq_getElem hkl⟩
     have hc8 := hlt c (List.mem_of_getElem? hc)
     have hc8' : (c : Int) < 256 := by omega
     obtain ⟨b, off, rfl, hbl, hcells⟩ := h3 (by omega)
     have hcell := hcells k c hc 0 (by simp)
     simp only [Nat.mul_one, Nat.add_zero] at hcell
     have HC : wr.cell? ⟨b, off + k, none⟩ = some (.int .u8 (c : Nat)) := hcell
     have hlen : (bs.take k).length = k := by rw [List.length_take]; omega
     have hX := numOf_lt k (bs.take k) hlen fun x hx => hlt x (List.mem_of_mem_take hx)
     have hnx : numOf (bs.take (k + 1)) = numOf (bs.take k) * 256 + c := by
       rw [List.take_add_one, hc]
       exact numOf_snoc _ _
     have h56 : 256 ^ k ≤ 256 ^ 7 := Nat.pow_le_pow_right (by decide) (by omega)
     obtain ⟨X, hXX⟩ : ∃ X, numOf (bs.take k) = X := ⟨_, rfl⟩
     rw [hXX] at hX hnx ⊢
     have hXlt : X < 72057594037927936 := Nat.lt_of_lt_of_le hX h56
     have hor : bits .or .u64 ((X : Int) * 256) (c : Int) = ((X * 256 + c : Nat) : Int) := by
       have h := or64 (X * 256) c (by omega) (by omega)
       rw [show X * 256 ||| c = X * 256 + c from or_add X c 8 (by omega)] at h
       rw [← h]
       rfl
     have hXi : (X : Int) < 72057594037927936 := by omega
     have HN := Lib.hid hnx
     clear hcell hcells hc hnx hXX hX h56 hlen
     go_wp2
     exact ⟨⟨k + 1, by omega, by go_num, by rw [HN.out]; rfl, trivial⟩, by simp [intOf]; omega⟩
   · obtain rfl : k = bs.length := by omega
     rw [List.take_length]
     go_wp2
     go_ret
     exact ⟨rfl, rfl⟩
theorem epoch_any (w : World) (s : Nat) (hs : s < 2 ^ 64) : Calls Tryz.prog 141 #[.int .u64 s] w fun e w' => e = .returned (.int .u64 (s / 1099511627776 : Nat)) ∧ w' = w := by
 have hd : (s : Int) / 1099511627776 = ((s / 1099511627776 : Nat) : Int) := by omega
 generalize s / 1099511627776 = q at *
 go_enter Tryz.func141, Tryz.ntmps141
 go_wp2
 go_ret
 exact ⟨rfl, rfl⟩
theorem count_any (w : World) (s : Nat) (hs : s < 2 ^ 64) : Calls Tryz.prog 165 #[.int .u64 s] w fun e w' => e = .returned (.int .u64 (s % 1099511627776 : Nat)) ∧ w' = w := by
 have ha : bits .and .u64 (s : Int) 1099511627775 = ((s % 1099511627776 : Nat) : Int) := by
   have h := Bits.bits_and s 1099511627775 hs (by decide)
   rw [show s &&& 1099511627775 = s % 1099511627776 from Nat.and_two_pow_sub_one_eq_mod s 40] at h
   exact h
 generalize s % 1099511627776 = r at *
 go_enter Tryz.func165, Tryz.ntmps165
 go_wp2
 go_ret
 exact ⟨rfl, rfl⟩
theorem stamp_ok (w : World) (e c : Nat) (he : e ≤ 16777215) (hc : c ≤ 1099511627775) : Calls Tryz.prog 149 #[.int .u64 e, .int .u64 c] w
   fun r w' => r = .returned (.tuple #[.int .u64 (e * 1099511627776 + c : Nat), .int .i64 0]) ∧ w' = w := by
 have he' : (e : Int) ≤ 16777215 := by omega
 have hc' : (c : Int) ≤ 1099511627775 := by omega
 have hor : bits .or .u64 ((e : Int) * 1099511627776) (c : Int) = ((e * 1099511627776 + c : Nat) : Int) := by
   have h := or64 (e * 1099511627776) c (by omega) (by omega)
   rw [show e * 1099511627776 ||| c = e * 1099511627776 + c from or_add e c 40 (by omega)] at h
   rw [← h]
   rfl
 generalize e * 1099511627776 + c = s at *
 go_enter Tryz.func149, Tryz.ntmps149
 go_wp2
 go_ret2
 exact ⟨rfl, rfl⟩
end Go.Proofs.YtldimgchpgoggaaGreat
namespace Go.Tn.Lp
structure Pc where
 ep : Nat
 ct : Nat
 fi : Bool
 la : Bool
 da : List Nat
def Pc.ok (p : Pc) : Prop := p.ep ≤ 16777215 ∧ p.ct ≤ 1099511627775 ∧ p.da.length ≤ 106
instance (p : Pc) : Decidable p.ok := by unfold Pc.ok; infer_instance
def flagsN (fi la : Bool) : Nat := fi.toNat + 2 * la.toNat
def seal3 (p : Pc) : List Nat := writeAt (((writeAt (List.replicate 128 0) 0 (bytesN (p.ep * 1099511627776 + p.ct) 8)).set 8 (flagsN p.fi p.la)).set 9 p.da.length) 10 p.da
def sealB (p : Pc) : List Nat := writeAt (writeAt (seal3 p) 116 (bytesN (fsum ((seal3 p).take 116)) 4)) 120 (bytesN (p.ep * 1099511627776 + p.ct) 8)
theorem flagsN_lt (fi la : Bool) : flagsN fi la < 4 := by cases fi <;> cases la <;> decide
theorem set_lt {L : List Nat} {i b : Nat} (h : ∀ x ∈ L, x < 256) (hb : b < 256) : ∀ x ∈ L.set i b, x < 256 := fun x hx => by
 rcases List.mem_or_eq_of_mem_set hx with h1 | h1
 · exact h x h1
 · omega
theorem rep_lt (n : Nat) : ∀ x ∈ List.replicate n 0, x < 256 := fun x hx => by
 have := List.eq_of_mem_replicate hx
 omega
theorem seal3_len (p : Pc) : (seal3 p).length = 128 := by simp [seal3, writeAt_len]
theorem seal3_lt (p : Pc) (hd : ∀ x ∈ p.da, x < 256) (h3 : p.da.length ≤ 106) : ∀ x ∈ seal3 p, x < 256 := by
 unfold seal3
 refine writeAt_lt (set_lt (set_lt (writeAt_lt (rep_lt 128) (bytesN_lt _ _) ?_) ?_) (by omega)) hd ?_
 · simp [bytesN_len]
 · have := flagsN_lt p.fi p.la
   omega
 · simp [writeAt_len]
   omega
theorem sealB_len (p : Pc) : (sealB p).length = 128 := by simp [sealB, writeAt_len, seal3_len]
theorem sealB_lt (p : Pc) (hd : ∀ x ∈ p.da, x < 256) (h3 : p.da.length ≤ 106) : ∀ x ∈ sealB p, x < 256 := by
 unfold sealB
 refine writeAt_lt (writeAt_lt (seal3_lt p hd h3) (bytesN_lt _ _) ?_) (bytesN_lt _ _) ?_
 · simp [bytesN_len, seal3_len]
 · simp [bytesN_len, writeAt_len, seal3_len]
end Go.Tn.Lp
namespace Go.Proofs.YtldimgchpgoggaaGreat
open Go.RowKit Go.Tn Go.Tn.Bt Go.Tn.Lp
theorem info8 : (Tryz.prog.info? 5).map (fun i => (i.zero, i.size, i.bytes)) = some (some (.int .u8 0), 1, 1) := by kernel_rfl
theorem size8 : (Tryz.prog.info? 5).map (·.size) = some 1 := by kernel_rfl
theorem setRow_mod (r : Nat) (cs : Array Value) (w : World) : Mod (fun x => x = r) w (w.setRow r cs) := by
 refine ⟨rfl, rfl, rfl, by simp [World.setRow], fun b hb hS => ?_⟩
 unfold World.setRow
 simp only
 rw [Array.getElem?_modify, if_neg (fun e => hS e.symm)]
theorem run_copy8 (w : World) (r : Nat) (L : List Nat) (h : Bk w r L) (v : Value) (bs : List Nat) (hv : LSl en8 1 w v bs) (o dLen dCap : Nat) (ho : o + bs.length ≤ L.length) (hd : bs.length ≤ dLen) :
   ∃ w', (∀ ty, (Builtin.copy_ #[107, 107] ty #[.slice (some ⟨r, o, none⟩) dLen dCap, v]).run Tryz.prog w = .ok (goInt bs.length) w') ∧ Bk w' r (writeAt L o bs) ∧ Mod (fun x => x = r) w w' := by
 obtain ⟨ao, cap, rfl, h1, h2, h3⟩ := hv
 by_cases h0 : bs = []
 · subst h0
   exact ⟨w, fun ty => run_copy_none w 107 107 ty 5 _ _ _ _ _ _ Tryz.underlying107 size8 (by simp), h, Mod.refl _ _⟩
 · have hpos : 0 < bs.length := List.length_pos_iff.2 h0
   obtain ⟨b, off, rfl, hlt, hc⟩ := h3 hpos
   have hsrc : ∀ (j : Nat) (u : Value), (bs.map fun b => Value.int .u8 ((b : Nat) : Int))[j]? = some u → w.cell? ((⟨b, off, none⟩ : Addr).add j) = some u := fun j u hj => by
     rw [List.getElem?_map] at hj
     obtain ⟨x, hx, rfl⟩ := Option.map_eq_some_iff.1 hj
     have := hc j x hx 0 (by simp)
     rw [addr_add]
     simpa using this
   have hr := fun ty => run_copy_row (P := Tryz.prog) w 107 107 ty 5 r o dLen dCap ⟨b, off, none⟩ bs.length cap (cells8 L) 5 (bs.map fun b => Value.int .u8 ((b : Nat) : Int)) Tryz.underlying107 size8 h (by simp [Nat.min_eq_left hd]) hsrc (by simp [cells8]; omega) (fun u hu => by
     obtain ⟨x, _, rfl⟩ := List.mem_map.1 hu
     rfl)
   simp only [List.length_map] at hr
   refine ⟨_, hr, ?_, ?_⟩
   · unfold Bk
     rw [writeAt_eq bs L o ho]
     have e : (cells8 (L.take o ++ bs ++ L.drop (o + bs.length))) = ((cells8 L).toList.take o ++ (bs.map fun b => Value.int .u8 ((b : Nat) : Int)) ++ (cells8 L).toList.drop (o + bs.length)).toArray := by
       simp [cells8, List.map_take, List.map_drop]
     rw [e]
     exact setRow_heap w r _ _ _ _ h
   · exact setRow_mod r _ w
theorem aggPc (ep ct : Int) (fi la : Bool) (v : Value) : AggT Tryz.prog 180 (#[.int .u64 ep, .int .u64 ct, .bool fi, .bool la, v] : Array Value).size := ⟨⟨_, Tryz.underlying180, rfl⟩, by kernel_rfl⟩
theorem flags_any (w : World) (ep ct : Int) (fi la : Bool) (ao : Option Addr) (n cap : Nat) : Calls Tryz.prog 151 #[.agg #[.int .u64 ep, .int .u64 ct, .bool fi, .bool la, .slice ao n cap]] w
   fun e w' => e = .returned (.int .u8 (flagsN fi la : Nat)) ∧ Below w.heap.size w w' := by
 cases fi <;> cases la
 all_goals
   go_enter Tryz.func151, Tryz.ntmps151
   go_wp2
   go_ret
   exact ⟨rfl, (Below.refl _ _).alloc (Nat.le_refl _) _⟩
theorem exec_copy8 (w : World) (r : Nat) (L : List Nat) (h : Bk w r L) (v : Value) (bs : List Nat) (hv : LSl en8 1 w v bs) (o dLen dCap : Nat) (ho : o + bs.length ≤ L.length) (hd : bs.length ≤ dLen) :
   ∃ w', (∀ (ρ : Operand → Value) (dst : Option Tmp) (ty : TypeId) (pos : String) (after : Array Edge) (g : Option (Nat × Bool)) (x y : Operand), ρ x = .slice (some ⟨r, o, none⟩) dLen dCap → ρ y = v →
     (execOp ρ ⟨dst, .call { callee := .builtin .copy, args := #[x, y], argTypes := #[107, 107] }, ty, pos, after, g⟩).run Tryz.prog w = .ok (.value (.int .i64 bs.length)) w') ∧ Bk w' r (writeAt L o bs) ∧ Mod (fun x => x = r) w w' := by
 obtain ⟨w', hr, hB, hm⟩ := run_copy8 w r L h v bs hv o dLen dCap ho hd
 refine ⟨w', fun ρ dst ty pos after g x y hx hy => ?_, hB, hm⟩
 simp only [execOp, resolve, invoke, builtin, Sem.run_bind, Sem.run_pure, Result.andThen_ok, List.map_toArray, List.map_cons, List.map_nil, hx, hy, hr, goInt]
theorem make8 (w : World) (n : Nat) (hn : n ≤ 1000) : ∃ w', (∀ (ρ : Operand → Value) (dst : Option Tmp) (ty : TypeId) (pos : String) (after : Array Edge) (g : Option (Nat × Bool)) (x y : Operand), ρ x = .int .i64 n → ρ y = .int .i64 n →
   (execOp ρ ⟨dst, .makeSlice 107 x y, ty, pos, after, g⟩).run Tryz.prog w = .ok (.value (.slice (some ⟨w.heap.size, 0, none⟩) n n)) w') ∧ Bk w' w.heap.size (List.replicate n 0) ∧ Below w.heap.size w w' := by
 obtain ⟨i0, hi, hz0, hz1, hz2⟩ := info_parts info8
 refine ⟨w.alloc (.cells (List.replicate n (Value.int .u8 0)).toArray 5), fun ρ dst ty pos after g x y hx hy => exec_make1 (n := n) Tryz.underlying107 hi hz0 hz1 rfl (by rw [hz2]; omega) (by unfold maxLen; omega) hx hy, ?_, (Below.refl _ _).alloc (Nat.le_refl _) _⟩
 unfold Bk
 rw [heap_alloc_at]
 simp [cells8]
set_option maxRecDepth 20000 in
set_option maxHeartbeats 4000000 in
theorem seal_ok (w : World) (ep ct : Nat) (fi la : Bool) (da : List Nat) (v : Value) (hv : LSl en8 1 w v da) (hlt : ∀ x ∈ da, x < 256) (h1 : ep ≤ 16777215) (h2 : ct ≤ 1099511627775) (h3 : da.length ≤ 106) :
   Calls Tryz.prog 132 #[.agg #[.int .u64 ep, .int .u64 ct, .bool fi, .bool la, v]] w
   fun e w' => ∃ r, e = .returned (.tuple #[.slice (some ⟨r, 0, none⟩) 128 128, .int .i64 0]) ∧ Bk w' r (sealB ⟨ep, ct, fi, la, da⟩) ∧ w.heap.size ≤ r ∧ Below w.heap.size w w' := by
 have hs64 : ep * 1099511627776 + ct < 2 ^ 64 := by omega
 have hv0 := hv
 obtain ⟨ao, cap, rfl, hc1, hc2, hc3⟩ := hv
 have h3' : (da.length : Int) ≤ 106 := by omega
 have hst := fun w => stamp_ok w ep ct h1 h2
 have hb1 : Below w.heap.size w (w.alloc (.cells #[.int .u64 ep, .int .u64 ct, .bool fi, .bool la, .slice ao da.length cap] 180)) := (Below.refl _ _).alloc (Nat.le_refl _) _
 have hz1 : (w.alloc (.cells #[.int .u64 ep, .int .u64 ct, .bool fi, .bool la, .slice ao da.length cap] 180)).heap.size = w.heap.size + 1 := by simp
 have hl1 : Lies (w.alloc (.cells #[.int .u64 ep, .int .u64 ct, .bool fi, .bool la, .slice ao da.length cap] 180)) w.heap.size 0 #[.int .u64 ep, .int .u64 ct, .bool fi, .bool la, .slice ao da.length cap] := lies_of heap_alloc_at
 obtain ⟨w2, hmk, hB2, hb2⟩ := make8 (w.alloc (.cells #[.int .u64 ep, .int .u64 ct, .bool fi, .bool la, .slice ao da.length cap] 180)) 128 (by decide)
 rw [hz1] at hmk hB2
 have HMK := Lib.hid hmk
 have hv2 := (hv0.below hb1).below hb2
 have hl2 := hl1.below' hb2 (by omega)
 have hb02 := hb1.trans (hb2.mono hb1.size)
 have hz2 := hb2.size
 rw [hz1] at hz2
 obtain ⟨s, hs⟩ : ∃ s, ep * 1099511627776 + ct = s := ⟨_, rfl⟩
 rw [hs] at hs64
 simp only [hs] at hst
 clear hc3 hmk hb1 hb2 hl1 hz1
 go_enter Tryz.func132, Tryz.ntmps132
 go_wp2_with (first
   | (go_at_call 149; refine (hst _).mono ?_; rintro e w2 ⟨rfl, hw⟩; obtain rfl := hw.symm; clear hw)
   | ((with_reducible refine wpList_exec rfl (HMK.out _ _ _ _ _ _ _ _ ?_ ?_) ?_); rfl; rfl; go_frame)
   | fail)
 obtain ⟨r, hr⟩ : ∃ r, w.heap.size + 1 = r := ⟨_, rfl⟩
 rw [hr] at hB2 ⊢
 refine (number_any w2 r _ hB2 s 8 0 128 hs64 (by decide) (by decide) (by decide) (by simp) (by simp)).mono ?_
 rintro e w3 ⟨rfl, hB3, hm3⟩
 have hb03 : Below w.heap.size w w3 := hb02.trans (hm3.below (by omega) fun x hx e => by omega)
 have hl3 := lies_mod hl2 hm3 (by omega)
 clear hB2 hb02 hl2 hm3 hv2 hz2
 have hlen1 : (writeAt (List.replicate 128 0) 0 (bytesN s 8)).length = 128 := by simp [writeAt_len]
 have hS3 : ∀ x ∈ [w3.drew], Lies x w.heap.size 0 #[.int .u64 ep, .int .u64 ct, .bool fi, .bool la, .slice ao da.length cap] := fun x hx => by
   rw [List.mem_singleton.1 hx]
   exact hl3
 have hS3 := hS3 _ (List.mem_singleton.2 rfl)
 have hwd : IntKind.u8.wrap ((da.length : Nat) : Int) = ((da.length : Nat) : Int) := by rw [wrap8, Nat.mod_eq_of_lt (by omega)]
 have hfl := flags_any w3.drew ep ct fi la ao da.length cap
 obtain ⟨fl, hfle⟩ : ∃ fl, flagsN fi la = fl := ⟨_, rfl⟩
 rw [hfle] at hfl
 go_upto_region 6 with fail
 refine wp_region_x (fun w' => Lies w' w.heap.size 0 #[.int .u64 ep, .int .u64 ct, .bool fi, .bool la, .slice ao da.length cap]) [(0, 1), (1, 1), (2, 0), (4, 1), (5, 0), (6, 1), (7, 1), (3, 2), (8, 1), (9, 2), (10, 1), (11, 3)] (by kernel_rfl) (by kernel_rfl) (by intro d v c a w h; cases d <;> exact h) ?_
 iterate 2 (refine x_take rfl (fun K hK => ?_); go_simp; refine hK _ ?_; clear hK K)
 refine x_read rfl hS3 (fun w' h => exec_loadA (aggPc _ _ _ _ _) rfl h) ?_
 iterate 1 (refine x_take rfl (fun K hK => ?_); go_simp; refine hK _ ?_; clear hK K)
 refine x_read rfl hS3 (fun w' h => exec_load1 ⟨⟨_, Tryz.underlying107, rfl⟩⟩ rfl (h 4 (by simp))) ?_
 iterate 2 (refine x_take rfl (fun K hK => ?_); go_simp; refine hK _ ?_; clear hK K)
 refine x_show' rfl (fun K hK => ?_)
 go_simp
 refine hfl.mono ?_
 rintro e w4 ⟨rfl, hb4⟩
 have hB4 : Bk w4 r (writeAt (List.replicate 128 0) 0 (bytesN s 8)) := Bk.below (w := w3.drew) hB3 hb4
 have hl4 := hS3.below' hb4 (World.block_lt_of_cell? _ _ (hS3 0 (by simp)))
 have hb04 : Below w.heap.size w w4 := hb03.drew.trans (hb4.mono hb03.size)
 refine hK _ _ hl4 ?_
 clear hK K hS3 hb4 hb03 hB3 hfl hl3
 obtain ⟨L1, hL1⟩ : ∃ L1, writeAt (List.replicate 128 0) 0 (bytesN s 8) = L1 := ⟨_, rfl⟩
 rw [hL1] at hlen1 hB4
 have hg8 : L1[8]? = some L1[8] := List.getElem?_eq_getElem (by omega)
 have h9 : 9 < (L1.set 8 fl).length := by simp; omega
 have hg9 : (L1.set 8 fl)[9]? = some ((L1.set 8 fl)[9]'h9) := List.getElem?_eq_getElem h9
 have hc8 := hB4.cell hg8
 have hf8 := hB4.free 8
 have hB5 := hB4.set 8 fl
 have hc9 := hB5.cell hg9
 have hf9 := hB5.free 9
 have hB6 := hB5.set 9 da.length
 have hl5 := lies_mod hl4 ((Mod.refl (fun x => x = r) w4).setCell ⟨r, 8, none⟩ (.int .u8 (fl : Nat)) fun _ => rfl) (by omega)
 iterate 1 (refine x_take rfl (fun K hK => ?_); go_simp; refine hK _ ?_; clear hK K)
 refine x_show' rfl (fun K hK => ?_)
 go_simp
 refine hK _ _ hl5 ?_
 clear hK K
 iterate 1 (refine x_take rfl (fun K hK => ?_); go_simp; refine hK _ ?_; clear hK K)
 refine x_exec' rfl (fun K hK => ?_)
 go_simp
 refine hK _ _ ?_
 clear hK K
 refine x_nil ?_
 have hl6 := lies_mod hl5 ((Mod.refl (fun x => x = r) _).setCell ⟨r, 9, none⟩ (.int .u8 ((da.length : Nat) : Int)) fun _ => rfl) (by omega)
 have hb06 : Below w.heap.size w ((w4.setCell ⟨r, 8, none⟩ (.int .u8 (fl : Nat))).setCell ⟨r, 9, none⟩ (.int .u8 ((da.length : Nat) : Int))) := (hb04.setCell (p := ⟨r, 8, none⟩) (show w.heap.size ≤ r by omega) _).setCell (p := ⟨r, 9, none⟩) (show w.heap.size ≤ r by omega) _
 have hlen6 : ((L1.set 8 fl).set 9 da.length).length = 128 := by simp; omega
 obtain ⟨L2, hL2⟩ : ∃ L2, (L1.set 8 fl).set 9 da.length = L2 := ⟨_, rfl⟩
 rw [hL2] at hB6 hlen6
 clear hl5 hl4 hB4 hB5 hb04 hc8 hf8 hc9 hf9 hg8 hg9 h9
 generalize (w4.setCell ⟨r, 8, none⟩ (.int .u8 (fl : Nat))).setCell ⟨r, 9, none⟩ (.int .u8 ((da.length : Nat) : Int)) = w6 at *
 have hS6 : Lies w6.drew w.heap.size 0 #[.int .u64 ep, .int .u64 ct, .bool fi, .bool la, .slice ao da.length cap] := hl6
 obtain ⟨w7, hcp, hB7, hm7⟩ := exec_copy8 w6.drew r L2 hB6 (.slice ao da.length cap) da (hv0.below hb06.drew) 10 118 118 (by omega) (by omega)
 have hb07 : Below w.heap.size w w7 := hb06.drew.trans (hm7.below hb06.size fun x hx e => by omega)
 go_upto_region 7 with fail
 refine wp_region_x (fun w' => Lies w' w.heap.size 0 #[.int .u64 ep, .int .u64 ct, .bool fi, .bool la, .slice ao da.length cap]) [(0, 1), (1, 1), (2, 1), (3, 0), (4, 3)] (by kernel_rfl) (by kernel_rfl) (by intro d v c a w h; cases d <;> exact h) ?_
 iterate 3 (refine x_take rfl (fun K hK => ?_); go_simp; refine hK _ ?_; clear hK K)
 refine x_read rfl hS6 (fun w' h => exec_load1 ⟨⟨_, Tryz.underlying107, rfl⟩⟩ rfl (h 4 (by simp))) ?_
 refine x_exec rfl (hcp _ _ _ _ _ _ _ _ rfl rfl) ?_
 refine x_nil ?_
 have hlen7 : (writeAt L2 10 da).length = 128 := by rw [writeAt_len]; exact hlen6
 obtain ⟨L3, hL3⟩ : ∃ L3, writeAt L2 10 da = L3 := ⟨_, rfl⟩
 rw [hL3] at hB7 hlen7
 have hL3' : L3 = seal3 ⟨ep, ct, fi, la, da⟩ := by
   unfold seal3
   simp only
   rw [hs, hL1, hfle, hL2, hL3]
 have hlt3 : ∀ x ∈ L3, x < 256 := by
   rw [hL3']
   exact seal3_lt _ hlt h3
 clear hS6 hl6 hB6 hb06 hm7 hcp
 have hsum := fsum_any w7.drew (.slice (some ⟨r, 0, none⟩) 116 128) (L3.take 116) (Bk.sl (w := w7.drew) hB7 (o := 0) (n := 116) (by omega) (by decide) (by decide)) (fun x hx => hlt3 x (List.mem_of_mem_take hx)) (by rw [List.length_take]; omega)
 have hfsl := fsum_lt (L3.take 116)
 obtain ⟨fs, hfs⟩ : ∃ fs, fsum (L3.take 116) = fs := ⟨_, rfl⟩
 rw [hfs] at hsum hfsl
 have hfsl' : (fs : Int) < 4294967296 := by omega
 have hwf : IntKind.u64.wrap (fs : Int) = (fs : Int) := by rw [Bt.wrap64, Nat.mod_eq_of_lt (by omega)]
 go_upto_region 8 with fail
 refine wp_region_x (fun _ => True) [(0, 1), (1, 1), (2, 1), (3, 1), (4, 2), (5, 1), (6, 3)] (by kernel_rfl) (by kernel_rfl) (by intro d v c a w h; cases d <;> exact h) ?_
 iterate 4 (refine x_take rfl (fun K hK => ?_); go_simp; refine hK _ ?_; clear hK K)
 refine x_show' rfl (fun K hK => ?_)
 go_simp
 refine hsum.mono ?_
 rintro e w8 ⟨rfl, hb8⟩
 have hB8 : Bk w8 r L3 := Bk.below (w := w7.drew) hB7 hb8
 have hb08 : Below w.heap.size w w8 := hb07.drew.trans (hb8.mono hb07.size)
 refine hK _ _ trivial ?_
 clear hK K hB7 hb07 hb8 hsum
 iterate 1 (refine x_take rfl (fun K hK => ?_); go_simp; refine hK _ ?_; clear hK K)
 refine x_exec' rfl (fun K hK => ?_)
 go_simp
 refine (number_any w8 r L3 hB8 fs 4 116 12 (by omega) (by decide) (by decide) (by decide) (by omega) (by omega)).mono ?_
 rintro e w9 ⟨rfl, hB9, hm9⟩
 refine hK _ _ ?_
 clear hK K
 refine x_nil ?_
 have hb09 : Below w.heap.size w w9 := hb08.trans (hm9.below hb08.size fun x hx e => by omega)
 clear hB8 hb08 hm9
 go_wp2_with fail
 refine (number_any w9 r _ hB9 s 8 120 8 hs64 (by decide) (by decide) (by decide) (by rw [writeAt_len]; omega) (by rw [writeAt_len]; omega)).mono ?_
 rintro e w10 ⟨rfl, hB10, hm10⟩
 have hb10 : Below w.heap.size w w10 := hb09.trans (hm10.below hb09.size fun x hx e => by omega)
 have hfin : sealB ⟨ep, ct, fi, la, da⟩ = writeAt (writeAt L3 116 (bytesN fs 4)) 120 (bytesN s 8) := by
   unfold sealB
   simp only
   rw [← hL3', hfs, hs]
 have HF := Lib.hid hfin
 have HB := Lib.hid hB10
 have HBE := Lib.hid hb10
 have hwr : w.heap.size ≤ r := by omega
 clear hfin hB10 hb10 hB9 hb09 hm10 hL3' hL3 hlt3
 go_wp2
 go_ret2
 exact ⟨r, rfl, by rw [HF.out]; exact HB.out, hwr, HBE.out⟩
end Go.Proofs.YtldimgchpgoggaaGreat
namespace Go.Proofs.YtldimgchpgoggaaGreat
open Go.RowKit Go.Tn Go.Tn.Bt Go.Tn.Lp
theorem conv8 (w : World) (v : Value) (bs : List Nat) (h : LSl en8 1 w v bs) : (convert 107 9 v).run Tryz.prog w = .ok (.string (strOfNums (bs.map fun b => ((b : Nat) : Int)))) w := by
 obtain ⟨ao, cap, rfl, h1, h2, h3⟩ := h
 by_cases h0 : 0 < bs.length
 · obtain ⟨b, off, rfl, hlt, hc⟩ := h3 h0
   refine run_convert_bytes_arg w 107 5 Tryz.underlying107 Tryz.underlying5 b off bs.length cap (bs.map fun b => ((b : Nat) : Int)) (by simp) (fun i hi => ?_) 9 Tryz.underlying9
   have := hc i bs[i] (List.getElem?_eq_getElem hi) 0 (by simp)
   simpa [List.getD, List.getElem?_eq_getElem hi] using this
 · have : bs = [] := List.eq_nil_of_length_eq_zero (by omega)
   subst this
   cases ao with
   | none =>
     rw [run_convert_bytes_nil w 107 5 Tryz.underlying107 Tryz.underlying5 _ _ 9 Tryz.underlying9]
     rfl
   | some p =>
     rw [run_convert_bytes_string w 107 9 5 _ _ cap Tryz.underlying107 Tryz.underlying5 Tryz.underlying9]
     have hl := run_loadCells_list (P := Tryz.prog) w p [] (by simp)
     exact (run_bytesToString w p 0 cap [] (by simpa using hl)).trans rfl
theorem strOf_inj {bs cs : List Nat} (hb : ∀ x ∈ bs, x < 256) (hc : ∀ x ∈ cs, x < 256) : (strOfNums (bs.map fun b => ((b : Nat) : Int))).toList = (strOfNums (cs.map fun b => ((b : Nat) : Int))).toList ↔ bs = cs := by
 rw [ByteArray.toList_eq, ByteArray.toList_eq, strOfNums_data, strOfNums_data, List.map_map, List.map_map]
 constructor
 · intro h
   have e : ∀ l : List Nat, (∀ x ∈ l, x < 256) → (l.map ((fun n : Int => UInt8.ofNat n.toNat) ∘ fun b => ((b : Nat) : Int))).map UInt8.toNat = l := fun l hl => by
     rw [List.map_map]
     have : ∀ x ∈ l, (UInt8.toNat ∘ ((fun n : Int => UInt8.ofNat n.toNat) ∘ fun b => ((b : Nat) : Int))) x = x := fun x hx => by
       have := hl x hx
       simp [Function.comp]
       omega
     rw [List.map_congr_left this, List.map_id']
   rw [← e bs hb, h, e cs hc]
 · rintro rfl
   rfl
theorem equal_any (w : World) (v u : Value) (bs cs : List Nat) (h1 : LSl en8 1 w v bs) (h2 : LSl en8 1 w u cs) (hb : ∀ x ∈ bs, x < 256) (hc : ∀ x ∈ cs, x < 256) : Calls Tryz.prog 124 #[v, u] w
   fun e w' => e = .returned (.bool (decide (bs = cs))) ∧ w' = w := by
 have k1 := conv8 w v bs h1
 have k2 := conv8 w u cs h2
 have hq : ((strOfNums (bs.map fun b => ((b : Nat) : Int))).toList == (strOfNums (cs.map fun b => ((b : Nat) : Int))).toList) = decide (bs = cs) := by
   rw [Bool.eq_iff_iff, beq_iff_eq, strOf_inj hb hc, decide_eq_true_eq]
 obtain ⟨d, hd⟩ : ∃ d, decide (bs = cs) = d := ⟨_, rfl⟩
 rw [hd] at hq ⊢
 obtain ⟨ao, n, c, rfl⟩ : ∃ a n c, v = .slice a n c := by obtain ⟨a, c, h, _⟩ := h1; exact ⟨_, _, _, h⟩
 obtain ⟨ao', n', c', rfl⟩ : ∃ a n c, u = .slice a n c := by obtain ⟨a, c, h, _⟩ := h2; exact ⟨_, _, _, h⟩
 generalize strOfNums (bs.map fun b => ((b : Nat) : Int)) = s1 at *
 generalize strOfNums (cs.map fun b => ((b : Nat) : Int)) = s2 at *
 clear h1 h2 hd
 go_enter Tryz.func124, Tryz.ntmps124
 go_wp2
 go_ret
 exact ⟨rfl, rfl⟩
end Go.Proofs.YtldimgchpgoggaaGreat
