/- The calls that a law of the vault's is handed. -/
import Derived.Test.YtipbaajdnnddgaaGreatMgVlj32
import Derived.Test.YtipbaajdnnddgaaGreatMgVlj26
import Derived.WalkKit
import Derived.ProofKit
import Derived.OpenShut
import Derived.ShutString
import Derived.ChangeOld
import Derived.Below
import Derived.Lib.SmallJoins
/- What a vault's homes are. Plain. -/
namespace Go.Proofs.YtipbaajdnnddgaaGreat
open Go.RowKit Go.Tn Go.Tn.Bt Go.Tn.Lp Go.Tn.Dk Go.Tn.Ino
theorem unpack_sector {L : List Bool} (h : L.length ≤ 1024) : ∃ Z, unpack (sector L) = L ++ Z := by
  unfold sector
  rw [unpack_append, unpack_pack, List.append_assoc]
  exact ⟨_, rfl⟩
theorem slice_bits {A Z : List Bool} {x k : Nat} (hx : x < 2 ^ k) : natOf (((A ++ (bitsN x k ++ Z)).drop A.length).take k) = x := by
  rw [List.drop_left, List.take_append_of_le_length (by rw [bitsN_len]; exact Nat.le_refl _), List.take_of_length_le (by rw [bitsN_len]; exact Nat.le_refl _), natOf_bitsN, Nat.mod_eq_of_lt hx]
theorem recAt_sec {r : Rec} (hf : r.fits) : recAt r.sec = r := by
  obtain ⟨b, cl⟩ := r
  have hl : cl.length = 8 := hf.len
  obtain ⟨Z, hZ⟩ := unpack_sector (L := (Rec.mk b cl).bits) (by rw [Rec.bits_len hf.len]; decide)
  have hb : natOf (((unpack (Rec.mk b cl).sec).drop 0).take 40) = b := by
    unfold Rec.sec
    rw [hZ]
    have := slice_bits (A := []) (Z := cl.flatMap clBits ++ Z) (x := b) (k := 40) hf.boot
    simpa [Rec.bits] using this
  have hc : ∀ j (h : j < 8), (natOf (((unpack (Rec.mk b cl).sec).drop (40 + 41 * j)).take 40), natOf (((unpack (Rec.mk b cl).sec).drop (80 + 41 * j)).take 1) == 1) = cl[j]'(by omega) := fun j h => by
    have hsp : cl = cl.take j ++ (cl[j]'(by omega) :: cl.drop (j + 1)) := by
      rw [List.getElem_cons_drop, List.take_append_drop]
    have hcj := hf.cl (cl[j]'(by omega)) (List.getElem_mem _)
    generalize hcc : cl[j]'(by omega) = c at *
    obtain ⟨s, ho⟩ := c
    have hbits : (Rec.mk b cl).bits = (bitsN b 40 ++ (cl.take j).flatMap clBits) ++ (bitsN s 40 ++ (bitsN ho.toNat 1 ++ (cl.drop (j + 1)).flatMap clBits)) := by
      unfold Rec.bits
      show bitsN b 40 ++ cl.flatMap clBits = _
      conv => lhs; rw [hsp]
      rw [List.flatMap_append, List.flatMap_cons, clBits]
      simp
    have hA : (bitsN b 40 ++ (cl.take j).flatMap clBits).length = 40 + 41 * j := by
      rw [List.length_append, bitsN_len, cl_len, List.length_take, hl, Nat.min_eq_left (by omega)]
    unfold Rec.sec
    rw [hZ, hbits]
    have h1 := slice_bits (A := bitsN b 40 ++ (cl.take j).flatMap clBits) (Z := bitsN ho.toNat 1 ++ (cl.drop (j + 1)).flatMap clBits ++ Z) (x := s) (k := 40) hcj
    rw [hA] at h1
    have h2 := slice_bits (A := bitsN b 40 ++ (cl.take j).flatMap clBits ++ bitsN s 40) (Z := (cl.drop (j + 1)).flatMap clBits ++ Z) (x := ho.toNat) (k := 1) (by cases ho <;> decide)
    have hA2 : (bitsN b 40 ++ (cl.take j).flatMap clBits ++ bitsN s 40).length = 80 + 41 * j := by
      rw [List.length_append, hA, bitsN_len]
      omega
    rw [hA2] at h2
    simp only [List.append_assoc] at h1 h2 ⊢
    rw [h1, h2]
    cases ho <;> rfl
  unfold recAt
  rw [hb]
  congr 1
  apply List.ext_getElem
  · simp [hl]
  · intro j h1 h2
    rw [List.getElem_map, List.getElem_range]
    exact hc j (by omega)
theorem recI_sec {r : Rec} (hf : r.fits) (hr : r.right = true) : recI r.sec = some r := by
  unfold recI
  rw [recAt_sec hf, if_pos ⟨hr, rfl⟩]
theorem root_dec : inoOf Ino.root.sec = some Ino.root := by
  have h1 : (inoAt Ino.root.sec).kind = 1 := by decide +kernel
  have h2 : (inoAt Ino.root.sec).gen = 1 := by decide +kernel
  have h3 : (inoAt Ino.root.sec).ver = 0 := by decide +kernel
  have h4 : (inoAt Ino.root.sec).bl = [0, 0, 0, 0, 0, 0, 0, 0] := by decide +kernel
  have he : inoAt Ino.root.sec = Ino.root := by
    generalize inoAt Ino.root.sec = x at *
    obtain ⟨a, b, c, d⟩ := x
    simp only at h1 h2 h3 h4
    subst h1 h2 h3 h4
    rfl
  unfold inoOf
  rw [he, if_pos ⟨rfl, rfl⟩]
theorem zero_dec : inoOf zeroS = some (Ino.free 0) := by
  have h1 : (inoAt zeroS).kind = 0 := by decide +kernel
  have h2 : (inoAt zeroS).gen = 0 := by decide +kernel
  have h3 : (inoAt zeroS).ver = 0 := by decide +kernel
  have h4 : (inoAt zeroS).bl = [0, 0, 0, 0, 0, 0, 0, 0] := by decide +kernel
  have h5 : (Ino.free 0).sec = zeroS := by decide +kernel
  have he : inoAt zeroS = Ino.free 0 := by
    generalize inoAt zeroS = x at *
    obtain ⟨a, b, c, d⟩ := x
    simp only at h1 h2 h3 h4
    subst h1 h2 h3 h4
    rfl
  unfold inoOf
  rw [he, if_pos ⟨rfl, h5⟩]
theorem zero_rec : recI zeroS = some Rec.zero := by
  have h5 : Rec.zero.sec = zeroS := by decide +kernel
  rw [← h5]
  exact recI_sec rec_zero_fits rfl
end Go.Proofs.YtipbaajdnnddgaaGreat

/- What a vault keeps. Plain. -/
namespace Go.Proofs.YtipbaajdnnddgaaGreat
open Go.RowKit Go.Tn Go.Tn.Bt Go.Tn.Lp Go.Tn.Dk Go.Tn.Ino Go.Tn.Bits
theorem mapT_sec {T : Nat → Bool} {j : Nat} (hj : j < 1024) : mapT (mapSec T) j = T j := by
  unfold mapT Al.homesOf
  have h8 : j / 8 < 128 := by omega
  have hg : (mapSec T).getD (j / 8) 0 = Al.by8 T (j / 8) := by
    unfold mapSec
    rw [List.getD_eq_getElem?_getD, List.getElem?_map, List.getElem?_range h8]
    rfl
  simp only []
  rw [hg]
  unfold Al.by8
  rw [testBit_num, decide_eq_true hj, Bool.true_and, decide_eq_true (by omega : 7 - j % 8 < 8), Bool.true_and]
  congr 1
  omega
/-- The homes of a disk of 80 sectors, a ring of 20. -/
def vHs (r : Rec) : List (List Nat) := r.sec :: mapSec T42 :: Ino.root.sec :: List.replicate 55 zeroS
structure VInv (i : Nat) (l : Lg) (d : Dsk) (r : Rec) : Prop where
  live : KLive 20 i l d [homesB l d]
  homes : homesB l d = vHs r
  fits : r.fits
  right : r.right = true
  len : d.L.length = 80
section
variable {i : Nat} {l : Lg} {d : Dsk} {r : Rec}
theorem VInv.nh (h : VInv i l d r) : l.homes d = 58 := by
  have := congrArg List.length h.homes
  rw [homesB_len] at this
  simpa [vHs] using this
theorem VInv.home (h : VInv i l d r) {k : Nat} (hk : k < 58) : (vHs r)[k]? = some (l.home d k) := by
  rw [← h.homes]
  unfold homesB
  rw [List.getElem?_map, List.getElem?_range (by rw [h.nh]; exact hk)]
  rfl
theorem VInv.h0 (h : VInv i l d r) : l.home d 0 = r.sec := (Option.some.inj (h.home (by decide : 0 < 58))).symm
theorem VInv.h1 (h : VInv i l d r) : l.home d 1 = mapSec T42 := (Option.some.inj (h.home (by decide : 1 < 58))).symm
theorem VInv.h2 (h : VInv i l d r) : l.home d 2 = Ino.root.sec := (Option.some.inj (h.home (by decide : 2 < 58))).symm
theorem VInv.hz (h : VInv i l d r) {k : Nat} (h3 : 3 ≤ k) (hk : k < 58) : l.home d k = zeroS := by
  have h1 := h.home hk
  obtain ⟨j, rfl⟩ : ∃ j, k = j + 3 := ⟨k - 3, by omega⟩
  unfold vHs at h1
  rw [List.getElem?_cons_succ, List.getElem?_cons_succ, List.getElem?_cons_succ, List.getElem?_replicate, if_pos (by omega)] at h1
  exact (Option.some.inj h1).symm
theorem VInv.sound (h : VInv i l d r) : soundB l d := by
  refine ⟨fun j hj hn => ?_, fun j hj => ?_⟩
  · rw [h.h1, mapT_sec hj]
    rw [h.nh] at hn
    exact decide_eq_false (by omega)
  · by_cases h0 : j = 0
    · subst h0
      rw [h.h2, root_dec]
      simp
    · rw [h.hz (by omega) (by omega), zero_dec]
      simp
theorem VInv.recd (h : VInv i l d r) : recI (l.home d 0) = some r := by rw [h.h0]; exact recI_sec h.fits h.right
theorem VInv.ok (h : VInv i l d r) (hi : i ≤ 900) : l.ok d := KInv.ok (.inl h.live) (by omega)
theorem VInv.mono (h : VInv i l d r) {j : Nat} (hj : i ≤ j) : VInv j l d r := ⟨h.live.mono hj, h.homes, h.fits, h.right, h.len⟩
theorem over0 (r r' : Rec) : overB (vHs r) [(0, r'.sec)] = vHs r' := by
  unfold overB vHs
  simp
theorem put0_trans (h : VInv i l d r) (r' : Rec) (hf : r'.fits) : transB [(0, r'.sec)] (l.homes d) = true := by
  have hl : r'.sec.length = 128 := sector_len (by rw [Rec.bits_len hf.len]; decide)
  rw [h.nh]
  unfold transB
  simp [hl]
theorem put0_cut (r' : Rec) (hf : r'.fits) : cutN (recB [(0, r'.sec)]) ≤ 20 := by
  have hl : r'.sec.length = 128 := sector_len (by rw [Rec.bits_len hf.len]; decide)
  have := recB_len (ps := [((0 : Int), r'.sec)]) (fun p hp => by rw [List.mem_singleton.1 hp]; exact hl)
  unfold cutN
  rw [this]
  show max (((8 + 1036 * 1 + 7) / 8 + 105) / 106) 1 ≤ 20
  decide
/-- Another record is noted, no fuse. -/
theorem VInv.put (h : VInv i l d r) (hi : i ≤ 900) (hq : Quiet d) (hQ : d.Q.length ≤ 900000000) (r' : Rec) (hf : r'.fits) (hr : r'.right = true) : ∃ l' d', stPut l d [(0, r'.sec)] = (l', d', 0) ∧ VInv (i + 2) l' d' r' ∧ Quiet d' ∧ d'.Q = [] ∧ ((l.write d [(0, r'.sec)]).2.2 = 8 → (l.check d).2.2 = 0 → (l.check d).1.ok (l.check d).2.1) := by
  obtain ⟨l', d', h1, h2, h3, h4, h5, h6⟩ := kput_quiet h.live hi hq (put0_trans h r' hf) (fun p hp => by rw [List.mem_singleton.1 hp]; exact sector_lt _) (put0_cut r' hf) hQ
  rw [h.homes, over0] at h3
  refine ⟨l', d', h1, ⟨h2, h3, hf, hr, ?_⟩, h4, h5, h6⟩
  have e1 := congrArg List.length h3
  rw [homesB_len] at e1
  have e2 := h2.rn
  have e3 := h2.fitd.1.nd
  unfold Lg.homes at e1
  simp [vHs] at e1
  omega
/-- Opened anew, no power lost. -/
theorem VInv.reopen (h : VInv i l d r) (hi : i ≤ 200) (hq : Quiet d) (hQ : d.Q = []) : ∃ l2, openB d 20 = some l2 ∧ newestB d (2 + 20) < 16777215 ∧ VInv (i + 1) l2 d r := by
  obtain ⟨l2, h1, h2, h3, h4⟩ := kreopen h.live hq hQ hi
  exact ⟨l2, h1, h2, ⟨h3, h4.trans h.homes, h.fits, h.right, h.len⟩⟩
end
theorem newd_quiet (n : Nat) : Quiet (newD n) := ⟨⟨rfl, rfl⟩, trivial⟩
/-- A new disk: opened, its homes made. -/
theorem vinit : KLive 20 0 (log0 20 1 0 0) (newD 80) [homesB (log0 20 1 0 0) (newD 80)] ∧ homesB (log0 20 1 0 0) (newD 80) = List.replicate 58 zeroS := by
  refine ⟨kinit (by decide) (by decide) (by decide), ?_⟩
  have hh : (log0 20 1 0 0).homes (newD 80) = 58 := by
    unfold Lg.homes newD log0
    simp
  unfold homesB
  rw [hh]
  apply List.ext_getElem
  · simp
  · intro j h1 h2
    have hj : j < 58 := by simpa using h1
    rw [List.getElem_map, List.getElem_range, List.getElem_replicate]
    show (newD 80).get (2 + 20 + j) = zeroS
    exact newd_get (by omega)
/-- Behind format. -/
theorem vformat : ∃ l' d', stPut (log0 20 1 0 0) (newD 80) fmtPs = (l', d', 0) ∧ VInv 2 l' d' Rec.zero ∧ Quiet d' ∧ d'.Q = [] ∧ ((log0 20 1 0 0).write (newD 80) fmtPs).2.2 ≠ 8 := by
  obtain ⟨h1, h2⟩ := vinit
  have hh : (log0 20 1 0 0).homes (newD 80) = 58 := by
    unfold Lg.homes newD log0
    simp
  have hlm : (mapSec T42).length = 128 := (mapSec_sec T42).1
  have hlr : Ino.root.sec.length = 128 := by decide +kernel
  have ht : transB fmtPs ((log0 20 1 0 0).homes (newD 80)) = true := by
    rw [hh]
    unfold transB fmtPs
    simp [hlm, hlr]
  have hrl := recB_len (ps := fmtPs) (fun p hp => by
    unfold fmtPs at hp
    simp only [List.mem_cons, List.not_mem_nil, or_false] at hp
    rcases hp with rfl | rfl
    · exact hlm
    · exact hlr)
  have hcN : cutN (recB fmtPs) = 3 := by
    unfold cutN
    rw [hrl]
    rfl
  obtain ⟨l', d', k1, k2, k3, k4, k5, -⟩ := kput_quiet h1 (by decide) (newd_quiet 80) ht (fun p hp => by
    unfold fmtPs at hp
    simp only [List.mem_cons, List.not_mem_nil, or_false] at hp
    rcases hp with rfl | rfl
    · exact (mapSec_sec T42).2
    · exact sector_lt _) (by rw [hcN]; decide) (by simp [newD])
  have hov : overB (List.replicate 58 zeroS) fmtPs = vHs Rec.zero := by
    have hz : Rec.zero.sec = zeroS := by decide +kernel
    unfold overB fmtPs vHs
    rw [hz]
    simp [List.replicate]
  rw [h2, hov] at k3
  refine ⟨l', d', k1, ⟨k2, k3, rec_zero_fits, rfl, ?_⟩, k4, k5, fun h8 => ?_⟩
  · have e1 := congrArg List.length k3
    rw [homesB_len] at e1
    have e2 := k2.rn
    have e3 := k2.fitd.1.nd
    unfold Lg.homes at e1
    simp [vHs] at e1
    omega
  · have hc : cutB (log0 20 1 0 0).epoch (log0 20 1 0 0).next (recB fmtPs) = .ok (cutL (log0 20 1 0 0).epoch (log0 20 1 0 0).next (recB fmtPs)) := cut_ok ht (by decide) (by decide)
    obtain ⟨-, hf⟩ := write_codes rfl ht hc (by rw [h8]; decide) (by rw [h8]; decide)
    rw [hcN] at hf
    revert hf
    decide
end Go.Proofs.YtipbaajdnnddgaaGreat

/- A vault on a new disk, and opened anew. -/
namespace Go.Proofs.YtipbaajdnnddgaaGreat
open Go.RowKit Go.Tn Go.Tn.Bt Go.Tn.Lp Go.Tn.Dk Go.Tn.Ino Go.Tn.Bits
theorem up_fits {r : Rec} (h : r.fits) (hb : r.boot < 1099511627775) : r.up.fits := ⟨by show r.boot + 1 < 1099511627776; omega, h.len, h.cl⟩
theorem mapT_zero {j : Nat} : mapT zeroS j = false := by
  unfold mapT Al.homesOf
  have hz : ∀ k, zeroS.getD k 0 = 0 := fun k => by
    unfold zeroS
    rw [List.getD_eq_getElem?_getD, List.getElem?_replicate]
    split <;> rfl
  simp only [hz, Nat.zero_testBit, Bool.and_false]
section
variable {w w' : World} {FD : Nat → Prop} {p : Nat} {i : Nat} {l : Lg} {d : Dsk} {r : Rec}
/-- A new disk. -/
theorem vnew_any (hd : DAt w FD p (newD 80)) : ∃ l d, VInv 4 l d Rec.zero.up ∧ Quiet d ∧ d.Q = [] ∧ Calls Tryz.prog 7 #[.pointer (some ⟨p, 0, none⟩), .int .i64 20] w fun e w' => VOpen w FD p l d Rec.zero.up e w' := by
  obtain ⟨l', d', k1, k2, k3, k4, k5⟩ := vformat
  obtain ⟨l2, d2, p1, p2, p3, p4, p5⟩ := k2.put (by decide) k3 (by rw [k4]; decide) Rec.zero.up (up_fits rec_zero_fits (by decide)) rfl
  obtain ⟨i1, i2⟩ := vinit
  have hok : (log0 20 1 0 0).ok (newD 80) := KInv.ok (.inl i1) (by decide)
  have hL : (newD 80).L.length = 80 := by simp [newD]
  have hh : (log0 20 1 0 0).homes (newD 80) = 58 := by
    unfold Lg.homes
    rw [hL]
    rfl
  have hz : ∀ k, k < 58 → (log0 20 1 0 0).home (newD 80) k = zeroS := fun k hk => by
    show (newD 80).get (2 + 20 + k) = zeroS
    exact newd_get (by omega)
  have hfo := fopen_any hd 20 (by decide) (by rw [hL]; decide) (by rw [hL]; decide) (by decide) (by rw [newest_zero _ _ (by decide)]; decide) (open_new (by decide) (by decide)) hok rfl (by simp [newD]) (Ino.free 0) (by rw [hz 2 (by decide)]; exact zero_dec) l' d'
    (.inr ⟨rfl, by rw [hz 1 (by decide)]; exact fun j _ _ => mapT_zero, k5, k1, k2.ok (by decide), by rw [hh, k2.nh]⟩) k2.sound
  exact ⟨l2, d2, p2, p3, p4, vopen_any 20 hfo (fun b hb => hd.lt b hb) (k2.ok (by decide)) (by rw [k2.nh]; decide) k2.recd (by decide) (by rw [k4]; decide) p5 p1⟩
/-- A disk with a vault, no power lost. -/
theorem vagain_any (hd : DAt w FD p d) (hV : VInv i l d r) (hi : i ≤ 200) (hq : Quiet d) (hQ : d.Q = []) (hb : r.boot < 1099511627775) : ∃ l2 d2, VInv (i + 3) l2 d2 r.up ∧ Quiet d2 ∧ d2.Q = [] ∧ Calls Tryz.prog 7 #[.pointer (some ⟨p, 0, none⟩), .int .i64 20] w fun e w' => VOpen w FD p l2 d2 r.up e w' := by
  obtain ⟨l1, h1, h2, h3⟩ := hV.reopen hi hq hQ
  obtain ⟨l2, d2, p1, p2, p3, p4, p5⟩ := h3.put (by omega) hq (by rw [hQ]; decide) r.up (up_fits hV.fits hb) hV.right
  have hL := hV.len
  have hfo := fopen_any hd 20 (by decide) (by rw [hL]; decide) (by rw [hL]; decide) (by decide) h2 h1 (h3.ok (by omega)) h3.live.rn (by rw [hQ]; decide) Ino.root (by rw [h3.h2]; exact root_dec) l1 d (.inl ⟨by decide, rfl, rfl⟩) h3.sound
  exact ⟨l2, d2, p2, p3, p4, vopen_any 20 hfo (fun b hb => hd.lt b hb) (h3.ok (by omega)) (by rw [h3.nh]; decide) h3.recd hb (by rw [hQ]; decide) p5 p1⟩
end
end Go.Proofs.YtipbaajdnnddgaaGreat

/- Who holds something: walked. -/
namespace Go.Tn.Ino
def Rec.held (r : Rec) (k : Nat) : List Int := ((List.range k).filter fun j => r.hol j).map fun (j : Nat) => (j : Int)
theorem Rec.held_succ (r : Rec) (k : Nat) : r.held (k + 1) = if r.hol k = true then r.held k ++ [(k : Int)] else r.held k := by
  unfold Rec.held
  rw [List.range_succ, List.filter_append, List.map_append]
  cases h : r.hol k
  · simp [h]
  · simp [h]
end Go.Tn.Ino
namespace Go.Proofs.YtipbaajdnnddgaaGreat
open Go.RowKit Go.Tn Go.Tn.Bt Go.Tn.Lp Go.Tn.Dk Go.Tn.Ino
set_option maxRecDepth 20000 in
set_option maxHeartbeats 4000000 in
theorem eholders_any (w : World) (x : Rec) (h : x.cl.length = 8) : Calls Tryz.prog 25 #[.agg (recC x)] w fun e w' => ∃ v, e = .returned v ∧ LOut enI 1 3 w.heap.size w' v (x.held 8) ∧ Below w.heap.size w w' := by
  have hb : Below w.heap.size w (w.alloc (.cells (recC x) 35)) := (Below.refl _ _).alloc (Nat.le_refl _) _
  have hL : Lies (w.alloc (.cells (recC x) 35)) w.heap.size 0 (recC x) := lies_of heap_alloc_at
  have hLP := Lies.clients hL
  have hap := aggCl h
  have hO0 : LOut enI 1 3 w.heap.size (w.alloc (.cells (recC x) 35)) (.slice none 0 0) ([] : List Int) := LOut.nil (by simp)
  have HB := Lib.hid hb
  have HO0 := Lib.hid hO0
  clear hb hL hO0
  go_enter Tryz.func25, Tryz.ntmps25
  go_wp2_with (first
    | ((with_reducible refine wpList_loadA hap hLP ?_ ?_); rfl; go_frame)
    | fail)
  go_loopw [3, 8] (fun ov iv wi => ∃ k : Nat, k ≤ 8 ∧ iv = .int .i64 k ∧ LOut enI 1 3 w.heap.size wi ov (x.held k) ∧ Below w.heap.size w wi) (fun _ iv _ => 8 - (intOf iv).toNat)
  case atStart => exact ⟨0, by omega, rfl, HO0.out, HB.out⟩
  case round =>
    obtain ⟨k, hk, rfl, hO, hbe⟩ := hrel
    by_cases hk8 : k < 8
    · have hk8' : (k : Int) < 8 := by omega
      have hpg := clC_ext (Rec.get_cl h hk8)
      have hsn := Rec.held_succ x k
      have hb1 : Below wr.heap.size wr (wr.alloc (.cells #[.int .u64 (x.ses k : Nat), .bool (x.hol k)] 32)) := (Below.refl _ _).alloc (Nat.le_refl _) _
      have hO1 := hO.below hb1
      have hbe1 : Below w.heap.size w (wr.alloc (.cells #[.int .u64 (x.ses k : Nat), .bool (x.hol k)] 32)) := hbe.trans (hb1.mono hbe.size)
      have hq1 : (wr.alloc (.cells #[.int .u64 (x.ses k : Nat), .bool (x.hol k)] 32)).cell? ⟨wr.heap.size, 1, none⟩ = some (.bool (x.hol k)) := cell_of heap_alloc_at rfl
      have hl8 : (x.held k).length ≤ 1000 := by
        unfold Rec.held
        rw [List.length_map]
        refine Nat.le_trans (List.length_filter_le _ _) ?_
        rw [List.length_range]
        omega
      have HO1 := Lib.hid hO1
      have HBE1 := Lib.hid hbe1
      have HSN := Lib.hid hsn
      clear hO hbe hsn hb1 hO1 hbe1
      generalize x.ses k = sc at *
      generalize x.hol k = hb at *
      go_upto_region 5 with (first
        | ((with_reducible refine wpList_exec rfl (exec_indexA (k := .i64) (i := k) Tryz.underlying33 aggC1 hk8 hpg ?_ ?_) ?_); rfl; rfl; go_frame)
        | fail)
      generalize wr.alloc (.cells #[.int .u64 (sc : Nat), .bool hb] 32) = w1 at *
      cases hb with
      | false =>
        go_wp2
        go_roundw
        case rel => exact ⟨k + 1, by omega, by go_num, by rw [HSN.out, if_neg (by decide)]; exact HO1.out, HBE1.out⟩
        case measure => simp [intOf]; omega
      | true =>
        go_wp2_with (first
          | ((with_reducible refine wpList_append1 elI HO1.out ((k : Nat) : Int) hl8 ?_ ?_ ?_ ?_); rfl; rfl; rfl; (intro v9 w9 hO9 hb9; have HO9 := Lib.hid hO9; have HB9 := Lib.hid hb9; clear hO9 hb9); go_frame)
          | fail)
        go_roundw
        case rel => exact ⟨k + 1, by omega, by go_num, by rw [HSN.out, if_pos rfl]; exact HO9.out, HBE1.out.trans HB9.out⟩
        case measure => simp [intOf]; omega
    · obtain rfl : k = 8 := by omega
      have HO := Lib.hid hO
      have HBE := Lib.hid hbe
      clear hO hbe
      go_wp2
      go_ret
      exact ⟨_, rfl, HO.out, HBE.out⟩
end Go.Proofs.YtipbaajdnnddgaaGreat

/- lives: walked. -/
namespace Go.Proofs.YtipbaajdnnddgaaGreat
open Go.RowKit Go.Tn Go.Tn.Bt Go.Tn.Lp Go.Tn.Dk Go.Tn.Ino
def r1 : Rec := Rec.zero.up
def r2 : Rec := r1.with_ 1 5 false
def r3 : Rec := r2.with_ 1 (r2.ses 1) true
def r4 : Rec := r3.up
set_option maxRecDepth 20000 in
set_option maxHeartbeats 4000000 in
theorem lives_any (w : World) : Calls Tryz.prog 11 #[] w fun e w' => e = .returned (.bool true) ∧ Below w.heap.size w w' := by
  have hnw := newd_any w 80 (by decide) (by decide)
  rw [show ((80 : Nat) : Int) = 80 from rfl] at hnw
  go_enter Tryz.func11, Tryz.ntmps11
  go_wp2_with fail
  refine hnw.mono ?_
  rintro e w1 ⟨p, FD, rfl, hD, hb1, hF⟩
  obtain ⟨l1, d1, i1, q1, z1, hop⟩ := vnew_any hD
  have HB1 := Lib.hid hb1
  have HF := Lib.hid hF
  have I1 := Lib.hid i1
  have Q1 := Lib.hid q1
  have Z1 := Lib.hid z1
  clear hnw hD hb1 hF i1 q1 z1
  go_wp2_with fail
  refine hop.mono ?_
  rintro e w2 ⟨v, s, g, F2, FD2, rfl, hV2, hm2, hF2, hFD2, hv2⟩
  have hb2 : Below w.heap.size w w2 := HB1.out.trans (hm2.below HB1.out.size fun x hx e => absurd (HF.out x e) (Nat.not_le.2 hx))
  have hFn2 : ∀ b, (F2 b ∨ FD2 b) ∨ b = v → w.heap.size ≤ b := fun b hb => by
    have := HB1.out.size
    rcases hb with (hb | hb) | hb
    · have := hF2 b hb; omega
    · rcases hFD2 b hb with h | h
      · exact HF.out b h
      · omega
    · omega
  obtain ⟨l3, d3, e3, i3, q3, z3, o3⟩ := I1.out.put (by decide) Q1.out (by rw [Z1.out]; decide) r2 (with_fits I1.out.fits (by decide)) (with_right I1.out.right (by decide))
  have hss := vsetsession_ok hV2 (I1.out.ok (by decide)) I1.out.right 1 5 (by decide) (by decide) (by decide) (by rw [Z1.out]; decide) o3
  rw [show stPut l1 d1 [(0, ((Rec.zero.up).with_ 1 5 false).sec)] = (l3, d3, 0) from e3, show ((1 : Nat) : Int) = 1 from rfl, show ((5 : Nat) : Int) = 5 from rfl] at hss
  have HB2 := Lib.hid hb2
  have HFN2 := Lib.hid hFn2
  have I3 := Lib.hid i3
  have Q3 := Lib.hid q3
  have Z3 := Lib.hid z3
  clear hop hV2 hm2 hF2 hFD2 hv2 hb2 hFn2 e3 i3 q3 z3 o3 I1 Q1 Z1
  go_wp2_with fail
  refine hss.mono ?_
  rintro e w3 ⟨rfl, F3, FD3, hV3, hm3, hF3, hFD3⟩
  have hV3 : VAt w3 F3 FD3 v s g p l3 d3 r2 := hV3
  have hb3 : Below w.heap.size w w3 := HB2.out.trans (hm3.below HB2.out.size fun x hx e => absurd (HFN2.out x e) (Nat.not_le.2 hx))
  have hFn3 : ∀ b, (F3 b ∨ FD3 b) ∨ b = v → w.heap.size ≤ b := fun b hb => by
    have := HB2.out.size
    rcases hb with (hb | hb) | hb
    · rcases hF3 b hb with h | h
      · exact HFN2.out b (.inl (.inl h))
      · omega
    · rcases hFD3 b hb with h | h
      · exact HFN2.out b (.inl (.inr h))
      · omega
    · exact HFN2.out b (.inr hb)
  obtain ⟨l4, d4, e4, i4, q4, z4, o4⟩ := I3.out.put (by decide) Q3.out (by rw [Z3.out]; decide) r3 (with_fits I3.out.fits (by decide)) (with_right I3.out.right (by decide))
  have hsh := vsetholds_ok hV3 (I3.out.ok (by decide)) I3.out.right 1 true (by decide) (by decide) (by decide) (by rw [Z3.out]; decide) o4
  rw [show stPut l3 d3 [(0, (r2.with_ 1 (r2.ses 1) true).sec)] = (l4, d4, 0) from e4, show ((1 : Nat) : Int) = 1 from rfl] at hsh
  have HB3 := Lib.hid hb3
  have HFN3 := Lib.hid hFn3
  have I4 := Lib.hid i4
  have Q4 := Lib.hid q4
  have Z4 := Lib.hid z4
  clear hss hV3 hm3 hF3 hFD3 hb3 hFn3 e4 i4 q4 z4 o4 I3 Q3 Z3 HB2 HFN2
  go_wp2_with fail
  refine hsh.mono ?_
  rintro e w4 ⟨rfl, F4, FD4, hV4, hm4, hF4, hFD4⟩
  have hV4 : VAt w4 F4 FD4 v s g p l4 d4 r3 := hV4
  have hb4 : Below w.heap.size w w4 := HB3.out.trans (hm4.below HB3.out.size fun x hx e => absurd (HFN3.out x e) (Nat.not_le.2 hx))
  have hFn4 : ∀ b, FD4 b → w.heap.size ≤ b := fun b hb => by
    have := HB3.out.size
    rcases hFD4 b hb with h | h
    · exact HFN3.out b (.inl (.inr h))
    · omega
  obtain ⟨l5, d5, i5, q5, z5, hop⟩ := vagain_any hV4.fs.disk I4.out (by decide) Q4.out Z4.out (by decide)
  have HB4 := Lib.hid hb4
  have HFN4 := Lib.hid hFn4
  clear hsh hV4 hm4 hF4 hFD4 hb4 hFn4 i5 q5 z5 I4 Q4 Z4 HB3 HFN3
  go_wp2_with fail
  refine hop.mono ?_
  rintro e w5 ⟨v5, s5, g5, F5, FD5, rfl, hV5, hm5, -, -, -⟩
  have hb5 : Below w.heap.size w w5 := HB4.out.trans (hm5.below HB4.out.size fun x hx e => absurd (HFN4.out x e) (Nat.not_le.2 hx))
  have hbo := vboot_any hV5
  rw [show (r3.up).boot = 2 from rfl] at hbo
  have HB5 := Lib.hid hb5
  have HV5 := Lib.hid hV5
  clear hop hV5 hm5 hb5 HB4 HFN4
  go_wp2_with fail
  refine hbo.mono ?_
  rintro e w6 ⟨rfl, hb6⟩
  have hrc := vrecord_any (HV5.out.below hb6)
  have HB6 := Lib.hid (HB5.out.trans (hb6.mono HB5.out.size))
  clear hbo hb6
  go_wp2_with fail
  refine hrc.mono ?_
  rintro e w7 ⟨rfl, hb7⟩
  have hho := eholders_any w7 r3.up rfl
  have HB7 := Lib.hid (HB6.out.trans (hb7.mono HB6.out.size))
  clear hrc hb7
  go_wp2_with fail
  refine hho.mono ?_
  rintro e w8 ⟨vh, rfl, hO, hb8⟩
  have hlen : (r3.up.held 8).length = 1 := by decide
  obtain ⟨ao, cap, rfl, -⟩ := hO.sl elI.len
  rw [hlen]
  have HB8 := Lib.hid (HB7.out.trans (hb8.mono HB7.out.size))
  clear hho hO hb8
  go_wp2
  go_ret
  exact ⟨rfl, HB8.out⟩
end Go.Proofs.YtipbaajdnnddgaaGreat

/- The calls that a law of the vault's is handed. -/
namespace Go.Proofs.YtipbaajdnnddgaaGreat
open Go.ChangeShapes Go.WideShapes Go.ChangeAt Go.RowKit Go.Tn Go.Joins Go.Tn.Bt Go.Tn.Lp Go.Tn.Dk
/-- A call: what, of whom, a number, a session, whether, what is kept. -/
structure DoV where
  kind : Int
  who : Int
  num : Int
  ses : Nat
  is : Bool
  keep : List Int
def enDoV (x : DoV × Sv) : List Value := [.int .i64 x.1.kind, .int .i64 x.1.who, .int .i64 x.1.num, .int .u64 (x.1.ses : Nat), .bool x.1.is, sv x.2]
structure DoV.fine (w : World) (x : DoV × Sv) : Prop where
  keep : LSl enI 1 w (sv x.2) x.1.keep
  who : -9223372036854775808 ≤ x.1.who ∧ x.1.who < 9223372036854775808
  num : -9223372036854775808 ≤ x.1.num ∧ x.1.num < 9223372036854775808
  ses : x.1.ses < 18446744073709551616
def DosV (w : World) (v : Value) (ds : List DoV) : Prop := ∃ xs : List (DoV × Sv), xs.map (·.1) = ds ∧ LSl enDoV 6 w v xs ∧ ∀ x ∈ xs, DoV.fine w x
theorem DosV.below {w w' : World} {v : Value} {ds : List DoV} (h : DosV w v ds) (hb : Below w.heap.size w w') : DosV w' v ds := by
  obtain ⟨xs, h1, h2, h3⟩ := h
  exact ⟨xs, h1, h2.below hb, fun x hx => ⟨(h3 x hx).keep.below hb, (h3 x hx).who, (h3 x hx).num, (h3 x hx).ses⟩⟩
theorem wf_i64_hi {n : Int} (h : (Lit.int .i64 n).wf = true) : n < 9223372036854775808 := by
  simp [Lit.wf, IntKind.bits, IntKind.signed] at h
  omega
theorem flatDo : flat Tryz.prog 4 39 = some [3, 3, 3, 30, 4, 37] := by kernel_rfl
theorem cellsDo : Tryz.prog.cellsOf 39 = [3, 3, 3, 30, 4, 37].length := by kernel_rfl
theorem flatI : flat Tryz.prog 1 3 = some [3] := by kernel_rfl
theorem cellsI : Tryz.prog.cellsOf 3 = [3].length := by kernel_rfl
section
variable {H : Type} {enc : TypeId × Value → H} {w : World} {base : Nat} {spare : Nat → Bool} {held : Bool}
theorem ints_of {ao : Option Addr} {n cap : Nat} {x : DataW H} {ps : List MemPlace} (h : DataW.Trod enc Tryz.prog w base spare held 37 (.slice ao n cap) x ps) : ∃ bs : List Int, LSl enI 1 w (.slice ao n cap) bs := by
  rcases open_flat Tryz.underlying37 flatI cellsI (by decide) h ⟨_, _, _, rfl⟩ with hv | ⟨b, off, spot, len, cap', hv, hl, hm, hin, hc⟩
  · cases hv
    exact ⟨[], LSl.nil w⟩
  · cases hv
    have hex : ∀ i : Nat, ∃ z : Int, i < n → w.cell? ⟨b, off + i, none⟩ = some (.int .i64 z) := fun i => by
      by_cases hi : i < n
      · obtain ⟨c, h1, h2⟩ := hc i hi 0 3 rfl
        obtain ⟨z, rfl, _⟩ := h2.int Tryz.underlying3
        exact ⟨z, fun _ => by simpa using h1⟩
      · exact ⟨0, fun h => absurd h hi⟩
    have hlen : ((List.range n).map fun i => Classical.choose (hex i)).length = n := by simp
    refine ⟨(List.range n).map fun i => Classical.choose (hex i), _, cap, by rw [hlen], by rw [hlen]; exact hl, hm, fun h0 => ?_⟩
    rw [hlen] at h0
    refine ⟨b, off, by rw [(hin h0).1], (hin h0).2, fun i y hi => ?_⟩
    have hlt : i < n := by
      have := (List.getElem?_eq_some_iff.1 hi).1
      rwa [hlen] at this
    have hy : Classical.choose (hex i) = y := by simpa [hlt] using hi
    rw [← hy]
    intro j hj
    have hj0 : j = 0 := by simpa using hj
    subst hj0
    have := Classical.choose_spec (hex i) hlt
    simpa using this
theorem CellOk.slice {t e : TypeId} (ht : Tryz.prog.underlying t = some (.slice e)) {c : Value} (h : CellOk enc Tryz.prog w base spare held t c) : ∃ a n cap, c = .slice a n cap ∧ ∃ x ps, DataW.Trod enc Tryz.prog w base spare held t (.slice a n cap) x ps := by
  obtain ⟨m, ⟨x, ps⟩, h⟩ := h
  have hsh : ∃ a n cap, c = .slice a n cap := by
    rcases Go.Deep.open_slice ht h with ⟨hcs, _⟩ | ⟨⟨b, off, spot⟩, len, cap, m, n, D, Pl, hcs, _⟩
    · exact ⟨_, _, _, by simpa using hcs⟩
    · exact ⟨_, _, _, by simpa using hcs⟩
  obtain ⟨a, n, cap, rfl⟩ := hsh
  exact ⟨a, n, cap, rfl, x, ps, m, h⟩
theorem dos_of {ao : Option Addr} {n cap : Nat} {x : DataW H} {ps : List MemPlace} (h : DataW.Trod enc Tryz.prog w base spare held 22 (.slice ao n cap) x ps) : ∃ ds : List DoV, DosV w (.slice ao n cap) ds := by
  rcases open_flat Tryz.underlying22 flatDo cellsDo (by decide) h ⟨_, _, _, rfl⟩ with hv | ⟨b, off, spot, len, cap', hv, hl, hm, hin, hc⟩
  · cases hv
    exact ⟨[], [], rfl, LSl.nil w, fun x hx => by cases hx⟩
  · cases hv
    have hex : ∀ i : Nat, ∃ y : DoV × Sv, i < n → Lies w b (off + i * 6) (enDoV y).toArray ∧ DoV.fine w y := fun i => by
      by_cases hi : i < n
      · obtain ⟨c0, h0, k0⟩ := hc i hi 0 3 rfl
        obtain ⟨z0, rfl, hz0⟩ := k0.int Tryz.underlying3
        obtain ⟨c1, h1, k1⟩ := hc i hi 1 3 rfl
        obtain ⟨z1, rfl, hz1⟩ := k1.int Tryz.underlying3
        obtain ⟨c2, h2, k2⟩ := hc i hi 2 3 rfl
        obtain ⟨z2, rfl, hz2⟩ := k2.int Tryz.underlying3
        obtain ⟨c3, h3, k3⟩ := hc i hi 3 30 rfl
        obtain ⟨z3, rfl, hz3⟩ := k3.int Tryz.underlying30
        obtain ⟨c4, h4, k4⟩ := hc i hi 4 4 rfl
        obtain ⟨z4, rfl⟩ := k4.bool Tryz.underlying4
        obtain ⟨c5, h5, k5⟩ := hc i hi 5 37 rfl
        obtain ⟨a5, n5, cp5, rfl, x5, p5, t5⟩ := CellOk.slice Tryz.underlying37 k5
        obtain ⟨zs, hz⟩ := ints_of t5
        have b1 := wf_i64_bounds hz1
        have b2 := wf_i64_bounds hz2
        have b3 := wf_u64_bounds hz3
        obtain ⟨k3', rfl⟩ := Int.eq_ofNat_of_zero_le b3.1
        refine ⟨(⟨z0, z1, z2, k3', z4, zs⟩, (a5, n5, cp5)), fun _ => ⟨fun j hj => ?_, ⟨hz, ⟨b1.1, by simp only; omega⟩, ⟨b2.1, by simp only; omega⟩, by simp only; omega⟩⟩⟩
        have hj5 : j < 6 := by simpa [enDoV] using hj
        match j, hj5 with
        | 0, _ => exact h0
        | 1, _ => exact h1
        | 2, _ => exact h2
        | 3, _ => exact h3
        | 4, _ => exact h4
        | 5, _ => exact h5
      · exact ⟨(⟨0, 0, 0, 0, false, []⟩, (none, 0, 0)), fun h => absurd h hi⟩
    have hlen : ((List.range n).map fun i => Classical.choose (hex i)).length = n := by simp
    have hget : ∀ i y, ((List.range n).map fun i => Classical.choose (hex i))[i]? = some y → i < n ∧ Classical.choose (hex i) = y := fun i y hi => by
      have hlt : i < n := by
        have := (List.getElem?_eq_some_iff.1 hi).1
        rwa [hlen] at this
      exact ⟨hlt, by simpa [hlt] using hi⟩
    refine ⟨((List.range n).map fun i => Classical.choose (hex i)).map (·.1), (List.range n).map fun i => Classical.choose (hex i), rfl, ⟨_, cap, by rw [hlen], by rw [hlen]; exact hl, hm, fun h0 => ?_⟩, fun y hy => ?_⟩
    · rw [hlen] at h0
      refine ⟨b, off, by rw [(hin h0).1], (hin h0).2, fun i y hi => ?_⟩
      obtain ⟨hlt, hy⟩ := hget i y hi
      rw [← hy]
      exact (Classical.choose_spec (hex i) hlt).1
    · obtain ⟨i, hi⟩ := List.mem_iff_getElem?.1 hy
      obtain ⟨hlt, hy⟩ := hget i y hi
      rw [← hy]
      exact (Classical.choose_spec (hex i) hlt).2
end
end Go.Proofs.YtipbaajdnnddgaaGreat
