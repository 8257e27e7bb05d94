/- The document's next: the record that is next; walked. -/
import Derived.Test.YtmakpbjknklpiaaGreatMgRpl32
import Derived.Test.YtmakpbjknklpiaaGreatMgRpl14
import Derived.Test.YtmakpbjknklpiaaGreatMgRpl3
/- The document's next: the record that is next; walked. -/
namespace Go.Proofs.YtmakpbjknklpiaaGreat
open Go.RowKit Go.Tn Go.Tn.Bt Go.Tn.Lp Go.Tn.Dk
/-- Unseal's answer, a piece or none. -/
def UnI (U : Option Pc) (code : Int) (q : Pc) : Prop := (code = 0 ∧ U = some q) ∨ (code = 4 ∧ U = none ∧ q = ⟨0, 0, false, false, []⟩)
theorem yunseal_uni (w : World) (v : Value) (bs : List Nat) (h : LSl en8 1 w v bs) (hs : secB bs) : Calls Tryz.prog 76 #[v] w fun e w' => Below w.heap.size w w' ∧ ∃ (code : Int) (q : Pc) (a : Option Addr) (n c : Nat),
    e = .returned (.tuple #[.agg #[.int .u64 (q.ep : Nat), .int .u64 (q.ct : Nat), .bool q.fi, .bool q.la, .slice a n c], .int .i64 code]) ∧ LOut en8 1 5 w.heap.size w' (.slice a n c) q.da ∧ UnI (unsealB bs) code q := by
  refine (yunseal_any w v bs h hs).mono ?_
  rintro e w' ⟨hb, hr⟩
  refine ⟨hb, ?_⟩
  cases hU : unsealB bs with
  | none =>
    rw [hU] at hr
    exact ⟨4, ⟨0, 0, false, false, []⟩, none, 0, 0, hr, LOut.nil hb.size, .inr ⟨rfl, rfl, rfl⟩⟩
  | some q =>
    rw [hU] at hr
    obtain ⟨v', he, hO⟩ := hr
    obtain ⟨a, n, c, rfl⟩ := LOut.shape hO
    exact ⟨0, q, a, n, c, he, hO, .inl ⟨rfl, rfl⟩⟩
theorem pieceB_uni {d : Dsk} {n c : Nat} {code : Int} {q : Pc} (h : UnI (unsealB (d.get (2 + c % n))) code q) : pieceB d n c = if code = 0 ∧ q.ct = c then some q else none := by
  unfold pieceB
  rcases h with ⟨rfl, h⟩ | ⟨rfl, h, -⟩
  · rw [h]
    by_cases hc : q.ct = c
    · simp [hc]
    · simp [hc]
  · rw [h]
    simp
theorem rec_bad {d : Dsk} {n x floor fuel : Nat} {acc : List Pc} (h : ∀ q, pieceB d n (x + acc.length) = some q → ¬ (q.fi = decide (acc.length = 0) ∧ floor ≤ q.ep ∧ ∀ p0 r, acc = p0 :: r → q.ep = p0.ep)) (hfl : ∀ p0 r, acc = p0 :: r → floor ≤ p0.ep) : recGo d n x floor (fuel + 1) acc = [] := by
  simp only [recGo]
  cases hp : pieceB d n (x + acc.length) with
  | none => rfl
  | some q =>
    have hn := h q hp
    cases acc with
    | nil =>
      simp only
      refine if_neg fun e => hn ⟨by rw [e.1]; rfl, e.2, fun p0 r e => by cases e⟩
    | cons p0 r =>
      simp only
      refine if_neg fun e => hn ⟨by rw [e.1]; rfl, by rw [e.2]; exact hfl p0 r rfl, fun p1 r1 e1 => by cases e1; exact e.2⟩
theorem rec_good {d : Dsk} {n x floor fuel : Nat} {acc : List Pc} {q : Pc} (hp : pieceB d n (x + acc.length) = some q) (h1 : q.fi = decide (acc.length = 0)) (h2 : floor ≤ q.ep) (h3 : ∀ p0 r, acc = p0 :: r → q.ep = p0.ep) : recGo d n x floor (fuel + 1) acc = if q.la = true then acc ++ [q] else recGo d n x floor fuel (acc ++ [q]) := by
  simp only [recGo, hp]
  cases acc with
  | nil =>
    simp only
    rw [if_pos ⟨by rw [h1]; rfl, h2⟩]
    rfl
  | cons p0 r =>
    simp only
    rw [if_pos ⟨by rw [h1]; rfl, h3 p0 r rfl⟩]
set_option maxRecDepth 20000 in
set_option maxHeartbeats 4000000 in
theorem znext_any {w : World} {S F FD : Nat → Prop} {g p N : Nat} {l : Lg} {d : Dsk} (h : RLg w S F g p l N) (hd : RDk w S FD p d) (hn2 : 2 ≤ l.n) (hnd : 2 + l.n ≤ d.L.length) (ht : l.tail ≤ l.next) (htn : l.next ≤ l.tail + l.n) (hnx : l.tail < 2 ^ 41) (floor : Nat) (hf : floor < 2 ^ 63) :
    Calls Tryz.prog 40 #[.pointer (some ⟨g, 0, none⟩), .int .u64 floor] w fun e w' => Below w.heap.size w w' ∧ ∃ v', e = .returned v' ∧ PcsX w.heap.size w' v' (l.recordB d floor) := by
  have hhi := hd.ok.hi
  have hdok := hd.ok
  obtain ⟨hv, xs0, hh, -⟩ := h.ex
  have c0 := cell_of (o := 0) hh rfl
  have c1 := cell_of (o := 1) hh rfl
  have c4 := cell_of (o := 4) hh rfl
  have c5 := cell_of (o := 5) hh rfl
  have hglt := lt_of_block hh
  have hrec : l.recordB d floor = recGo d l.n l.next floor l.free [] := rfl
  have hfr0 : l.free = l.n - (l.next - l.tail) := rfl
  generalize l.n = n at *
  generalize l.next = x at *
  generalize l.tail = t at *
  obtain ⟨fr, hfr⟩ : ∃ fr, l.free = fr := ⟨_, rfl⟩
  rw [hfr] at hrec hfr0
  have hfx : x + fr = t + n := by omega
  have HREC := Lib.hid hrec
  have HD := Lib.hid hd
  have HDOK := Lib.hid hdok
  have hfri : (fr : Int) ≤ 4096 := by omega
  have hxi : (x : Int) ≤ 3000000000000 := by omega
  have hti : (t : Int) ≤ 3000000000000 := by omega
  have hni : (n : Int) ≤ 4096 := by omega
  have hn0 : (2 : Int) ≤ (n : Int) := by omega
  have HFR := Lib.hid hfx
  clear h hd hh hrec hfr hfr0 hnx htn ht hdok
  go_enter Tryz.func40, Tryz.ntmps40
  go_wp2_with fail
  go_loopw [5, 6, 7, 8] (fun ov iv _ _ wi => ∃ (acc : List Pc), iv = .int .u64 (acc.length : Nat) ∧ acc.length ≤ fr ∧ Below w.heap.size w wi ∧ (∃ xs : List (Pc × Sv), xs.map (·.1) = acc ∧ LOut enPc 5 93 w.heap.size wi ov xs ∧ DatF w.heap.size wi ov xs) ∧ recGo d n x floor (fr - acc.length) acc = recGo d n x floor fr [] ∧ ∀ p0 r, acc = p0 :: r → floor ≤ p0.ep) (fun _ iv _ _ _ => fr - (intOf iv).toNat)
  case atStart => exact ⟨[], rfl, Nat.zero_le _, Below.refl _ _, ⟨[], rfl, LOut.nil (Nat.le_refl _), fun x hx => by cases hx⟩, rfl, fun p0 r e => by cases e⟩
  case round =>
    obtain ⟨acc, rfl, hal, hb, ⟨xs, hxs, hO, hD⟩, hgo, hfl⟩ := hrel
    obtain ⟨o1, o2, o3, rfl⟩ := hO.shape
    obtain ⟨wo, hwo⟩ : ∃ wo, wo = wr := ⟨_, rfl⟩
    subst hwo
    obtain ⟨i, hi⟩ : ∃ i, acc.length = i := ⟨_, rfl⟩
    have hxl : xs.length = i := by rw [← hi, ← hxs]; simp
    rw [hi] at hal hgo ⊢
    have hii : (i : Int) ≤ 4096 := by omega
    have hw1 : IntKind.u64.wrap ((x : Int) + (i : Int)) = (x : Int) + (i : Int) := IntWalk.u64_in _ (by omega)
    have hw2 : IntKind.u64.wrap ((n : Nat) : Int) = ((n : Nat) : Int) := IntWalk.u64_in _ (by omega)
    have hw3 : IntKind.u64.wrap ((t : Int) + (n : Int)) = (t : Int) + (n : Int) := IntWalk.u64_in _ (by omega)
    have d0 : wo.drew.cell? ⟨g, 0, none⟩ = _ := (hb.cell (p := ⟨g, 0, none⟩) hglt).trans c0
    have d1 : wo.drew.cell? ⟨g, 1, none⟩ = _ := (hb.cell (p := ⟨g, 1, none⟩) hglt).trans c1
    have d4 : wo.drew.cell? ⟨g, 4, none⟩ = _ := (hb.cell (p := ⟨g, 4, none⟩) hglt).trans c4
    have d5 : wo.drew.cell? ⟨g, 5, none⟩ = _ := (hb.cell (p := ⟨g, 5, none⟩) hglt).trans c5
    have hS3 : wo.drew.cell? ⟨g, 5, none⟩ = some (.int .u64 (x : Nat)) ∧ wo.drew.cell? ⟨g, 4, none⟩ = some (.int .u64 (t : Nat)) ∧ wo.drew.cell? ⟨g, 1, none⟩ = some (.int .i64 (n : Nat)) := ⟨d5, d4, d1⟩
    obtain ⟨more, hmore⟩ : ∃ b, decide (i < fr) = b := ⟨_, rfl⟩
    have hmore' : decide ((x : Int) + (i : Int) < (t : Int) + (n : Int)) = more := by rw [← hmore]; exact decide_eq_decide.2 (by have := HFR.out; omega)
    have hmo2 : decide (x + i < t + n) = more := by rw [← hmore]; exact decide_eq_decide.2 (by have := HFR.out; omega)
    have HMORE := Lib.hid hmore
    have HXS := Lib.hid hxs
    have HO := Lib.hid hO
    have HDT := Lib.hid hD
    have HB := Lib.hid hb
    have HGO := Lib.hid hgo
    have HFL := Lib.hid hfl
    have HI := Lib.hid hi
    clear hmore hxs hO hD hb hgo hfl hi d0 d1 d4 d5
    go_upto_region 3 with fail
    refine wp_region_x (fun w' => w'.cell? ⟨g, 5, none⟩ = some (.int .u64 (x : Nat)) ∧ w'.cell? ⟨g, 4, none⟩ = some (.int .u64 (t : Nat)) ∧ w'.cell? ⟨g, 1, none⟩ = some (.int .i64 (n : Nat))) [(0, 1), (1, 1), (2, 1), (3, 0), (4, 1), (5, 1), (6, 1), (7, 1), (8, 1), (9, 0), (10, 1), (11, 1), (12, 1), (13, 0), (14, 1), (15, 1), (16, 1)] (by kernel_rfl) (by kernel_rfl) (by intro d v c a w h; cases d <;> exact h) ?_
    iterate 3 (refine x_take rfl (fun K hK => ?_); go_simp; refine hK _ ?_; clear hK K)
    refine x_read rfl hS3 (fun w' h => exec_load1 ⟨⟨_, Tryz.underlying49, rfl⟩⟩ rfl h.1) ?_
    iterate 5 (refine x_take rfl (fun K hK => ?_); go_simp; refine hK _ ?_; clear hK K)
    refine x_read rfl hS3 (fun w' h => exec_load1 ⟨⟨_, Tryz.underlying49, rfl⟩⟩ rfl h.2.1) ?_
    iterate 3 (refine x_take rfl (fun K hK => ?_); go_simp; refine hK _ ?_; clear hK K)
    refine x_read rfl hS3 (fun w' h => exec_load1 ⟨⟨_, Tryz.underlying3, rfl⟩⟩ rfl h.2.2) ?_
    iterate 3 (refine x_take rfl (fun K hK => ?_); go_simp; refine hK _ ?_; clear hK K)
    refine x_nil ?_
    have HS3 := Lib.hid hS3
    clear hS3
    cases more with
    | false =>
      have hge : i = fr := by have := of_decide_eq_false HMORE.out; omega
      have hnil : recGo d n x floor fr [] = [] := by
        have := HGO.out
        rw [hge, Nat.sub_self] at this
        exact this.symm
      have HNIL := Lib.hid hnil
      clear hnil hge
      go_wp2
      go_ret
      refine ⟨HB.out.drew, _, rfl, ?_⟩
      rw [HREC.out, HNIL.out]
      exact ⟨[], rfl, LOut.nil HB.out.drew.size, fun x hx => by cases hx⟩
    | true =>
      have hifr : i < fr := of_decide_eq_true HMORE.out
      obtain ⟨m, hm⟩ : ∃ m, (x + i) % n = m := ⟨_, rfl⟩
      have hmn : m < n := by rw [← hm]; exact Nat.mod_lt _ (by omega)
      have hm1 : ((x : Int) + (i : Int)) % (n : Int) = ((m : Nat) : Int) := by rw [← hm, Int.natCast_emod, Int.natCast_add]
      have hm2 : ((x : Int) + (i : Int)).tmod (n : Int) = ((m : Nat) : Int) := by rw [Int.tmod_eq_emod_of_nonneg (by omega)]; exact hm1
      have hmi : (m : Int) < 4096 := by omega
      have hz : ¬ ((n : Nat) : Int) = 0 := by omega
      have hzn : ¬ n = 0 := by omega
      have hz' : (((n : Nat) : Int) == 0) = false := by rw [beq_eq_false_iff_ne]; omega
      have hw4 : IntKind.i64.wrap ((m : Nat) : Int) = ((m : Nat) : Int) := IntWalk.i64_in _ (by omega)
      have hw4' : IntKind.u64.wrap ((m : Nat) : Int) = ((m : Nat) : Int) := IntWalk.u64_in _ (by omega)
      have hw5 : IntKind.i64.wrap (2 + ((m : Nat) : Int)) = 2 + ((m : Nat) : Int) := IntWalk.i64_in _ (by omega)
      have hgi : d.get (2 + (x + i) % n) = d.get (2 + m) := by rw [hm]
      have HGI := Lib.hid hgi
      obtain ⟨w1, hw1e⟩ : ∃ w1, wo.drew = w1 := ⟨_, rfl⟩
      have hB1 : Below w.heap.size w w1 := by rw [← hw1e]; exact HB.out.drew
      have hS := HS3.out
      rw [hw1e] at hS
      have hg0 : w1.cell? ⟨g, 0, none⟩ = some (.pointer (some ⟨p, 0, none⟩)) := (hB1.cell (p := ⟨g, 0, none⟩) hglt).trans c0
      have HO1 : Hid (LOut enPc 5 93 w.heap.size w1 (.slice o1 o2 o3) xs) := Lib.hid (by rw [← hw1e]; exact HO.out.below (Below.refl _ wo).drew)
      have HDT1 : Hid (DatF w.heap.size w1 (.slice o1 o2 o3) xs) := Lib.hid (by rw [← hw1e]; exact HDT.out.below (Below.refl _ wo).drew)
      have HB1 := Lib.hid hB1
      have hgw1 : g < w1.heap.size := Nat.lt_of_lt_of_le hglt hB1.size
      have hfr : ∀ W, Below w1.heap.size w1 W → W.cell? ⟨g, 0, none⟩ = some (.pointer (some ⟨p, 0, none⟩)) ∧ W.cell? ⟨g, 5, none⟩ = some (.int .u64 (x : Nat)) ∧ W.cell? ⟨g, 1, none⟩ = some (.int .i64 (n : Nat)) := fun W hW => ⟨(hW.cell (p := ⟨g, 0, none⟩) hgw1).trans hg0, (hW.cell (p := ⟨g, 5, none⟩) hgw1).trans hS.1, (hW.cell (p := ⟨g, 1, none⟩) hgw1).trans hS.2.2⟩
      have hsec := HDOK.out.get (i := 2 + m) (by omega)
      have his : ∀ W, Below w1.heap.size w1 W → Calls Tryz.prog 26 #[.pointer (some ⟨p, 0, none⟩), .int .i64 (2 + (m : Int))] W fun e w' => (∃ s, e = .returned (sv s) ∧ Dat W S s (d.get (2 + m))) ∧ w' = W := fun W hW => by
        have := xis_any (HD.out.below (HB1.out.trans (hW.mono HB1.out.size))) (2 + m) (by omega)
        rwa [show ((2 + m : Nat) : Int) = 2 + (m : Int) by omega] at this
      have HIS := Lib.hid his
      have HFR' := Lib.hid hfr
      have HSEC := Lib.hid hsec
      clear his hfr hsec hB1 hm hgi HS3 hg0 HB HO HDT
      go_upto_region 5 with fail
      rw [hw1e]
      clear hw1e
      go_cut [7, 8] (fun s7 s8 wx => ∃ (xb : Nat) (code : Int) (q : Pc) (a : Option Addr) (nn c : Nat), s7 = .pointer (some ⟨xb, 0, none⟩) ∧ s8 = .int .i64 code ∧ wx.heap[xb]? = some (.cells #[.int .u64 (q.ep : Nat), .int .u64 (q.ct : Nat), .bool q.fi, .bool q.la, .slice a nn c] 93 (0, 0)) ∧ LOut en8 1 5 w1.heap.size wx (.slice a nn c) q.da ∧ UnI (unsealB (d.get (2 + m))) code q ∧ Below w1.heap.size w1 wx ∧ w1.heap.size ≤ xb)
      case first =>
        have hS := HFR'.out _ (Below.refl _ w1).drew
        have hd0 : Below w1.heap.size w1 w1.drew := (Below.refl _ _).drew
        refine wp_region_t (fun w' => w'.cell? ⟨g, 0, none⟩ = some (.pointer (some ⟨p, 0, none⟩)) ∧ w'.cell? ⟨g, 5, none⟩ = some (.int .u64 (x : Nat)) ∧ w'.cell? ⟨g, 1, none⟩ = some (.int .i64 (n : Nat))) [(0, 1), (1, 1), (2, 1), (3, 0), (4, 1), (5, 1), (6, 1), (7, 0), (8, 1), (9, 1), (10, 1), (11, 1), (12, 1), (13, 0), (14, 1), (15, 1), (16, 1), (17, 1), (18, 2), (19, 2), (20, 1), (21, 1), (22, 1), (23, 2), (24, 3), (25, 1)]
          (.one 0 1 (.one 1 1 (.one 2 1 (.one 3 0 (.one 4 1 (.one 5 1 (.one 6 1 (.one 7 0 (.one 8 1 (.one 9 1 (.one 10 1 (.one 11 1 (.one 12 1 (.one 13 0 (.one 14 1 (.one 15 1 (.one 16 1 (.one 17 1 (.two 18 23 (.two 19 23 (.one 20 1 (.one 21 1 (.one 22 1 (.one 23 2 (.one 24 3 (.one 25 1 .nil)))))) (.one 19 2 (.one 20 1 (.one 21 1 (.one 22 1 (.one 24 3 (.one 25 1 .nil))))))) (.one 18 2 (.one 19 2 (.one 20 1 (.one 21 1 (.one 22 1 (.one 24 3 (.one 25 1 .nil)))))))))))))))))))))))))) (by kernel_rfl) (by kernel_rfl) (by intro d v c a w h; cases d <;> exact h) ?_
        iterate 3 (refine t_take rfl (fun K hK => ?_); go_simp; refine hK _ ?_; clear hK K)
        refine t_read rfl hS (fun w' h => exec_load1 ⟨⟨_, Tryz.underlying28, rfl⟩⟩ rfl h.1) ?_
        iterate 3 (refine t_take rfl (fun K hK => ?_); go_simp; refine hK _ ?_; clear hK K)
        refine t_read rfl hS (fun w' h => exec_load1 ⟨⟨_, Tryz.underlying49, rfl⟩⟩ rfl h.2.1) ?_
        iterate 5 (refine t_take rfl (fun K hK => ?_); go_simp; refine hK _ ?_; clear hK K)
        refine t_read rfl hS (fun w' h => exec_load1 ⟨⟨_, Tryz.underlying3, rfl⟩⟩ rfl h.2.2) ?_
        iterate 4 (refine t_take rfl (fun K hK => ?_); go_simp; refine hK _ ?_; clear hK K)
        refine t_two rfl rfl (fun K hK => ?_) (fun K hK => ?_)
        · go_simp
          refine (HIS.out _ hd0).mono ?_
          rintro e w2 ⟨⟨s, rfl, hs⟩, hw⟩
          obtain rfl := hw.symm
          obtain ⟨s1, s2, s3⟩ := s
          refine hK _ _ hS ?_
          clear hK K hw
          refine t_two rfl rfl (fun K hK => ?_) (fun K hK => ?_)
          · go_simp
            refine (yunseal_uni _ _ _ hs.rd HSEC.out).mono ?_
            rintro e w3 ⟨hb3, code, q, a3, n3, c3, rfl, hO3, hq⟩
            have hb13 : Below w1.heap.size w1 w3 := hd0.trans hb3
            refine hK _ _ (HFR'.out _ hb13) ?_
            clear hK K
            iterate 3 (refine t_take rfl (fun K hK => ?_); go_simp; refine hK _ ?_; clear hK K)
            refine t_show' rfl (fun K hK => ?_)
            go_simp
            have hba : Below w3.heap.size w3 (w3.alloc (.cells #[.int .u64 0, .int .u64 0, .bool false, .bool false, .slice none 0 0] 93)) := (Below.refl _ _).alloc (Nat.le_refl _) _
            have hX4 : (w3.alloc (.cells #[.int .u64 0, .int .u64 0, .bool false, .bool false, .slice none 0 0] 93)).heap[w3.heap.size]? = some (.cells #[.int .u64 0, .int .u64 0, .bool false, .bool false, .slice none 0 0] 93 (0, 0)) := heap_alloc_at
            have hb14 : Below w1.heap.size w1 (w3.alloc (.cells #[.int .u64 0, .int .u64 0, .bool false, .bool false, .slice none 0 0] 93)) := hb13.trans (hba.mono hb13.size)
            have hO4 := hO3.below hba
            obtain ⟨xb, hxb⟩ : ∃ xb, w3.heap.size = xb := ⟨_, rfl⟩
            have hne : ∀ r, (Value.slice a3 n3 c3).ownBlock = some r → r ≠ xb := fun r hr => by have := hO3.lt hr; omega
            have hxl : w1.heap.size ≤ xb := by rw [← hxb]; exact hb13.size
            rw [hxb] at hX4 ⊢
            generalize w3.alloc _ = w4 at *
            refine hK _ _ (HFR'.out w4 hb14) ?_
            clear hK K
            obtain ⟨w9, hst, hh9, hm9⟩ := exec_storeB (ρ := fun _ => undef) (ty := 0) (pos := "") (after := #[]) (x := .tmp 0) (y := .tmp 0) (aggXP (q.ep : Nat) (q.ct : Nat) q.fi q.la (.slice a3 n3 c3)) hX4 rfl (oneXP _ _ _ _ _ _ _)
            refine t_skip rfl (hst _ _ _ _ _ _ _ _ rfl rfl) ?_
            iterate 1 (refine t_take rfl (fun K hK => ?_); go_simp; refine hK _ ?_; clear hK K)
            refine t_nil ?_
            have hb9 := hb14.trans (hm9.below hb14.size fun x hx e => by omega)
            have hO9 := hO4.kept hm9.size fun r hr => hm9.block r (hO4.lt hr) (hne r hr)
            have HO9 := Lib.hid hO9
            have HB9 := Lib.hid hb9
            have HH9 := Lib.hid hh9
            have HQ := Lib.hid hq
            clear hO9 hb9 hh9 hm9 hst hq hO4 hO3 hb3 hba hX4 hb14 hb13
            go_wp2
            go_meet
            case rel => exact ⟨xb, code, q, a3, n3, c3, rfl, rfl, HH9.out, HO9.out, HQ.out, HB9.out, hxl⟩
          · go_simp
            have hba : Below w1.heap.size w1 (w1.alloc (.cells #[.int .u64 0, .int .u64 0, .bool false, .bool false, .slice none 0 0] 93)).drew := ((Below.refl w1.heap.size w1).alloc (Nat.le_refl _) _).drew
            have hX4 : (w1.alloc (.cells #[.int .u64 0, .int .u64 0, .bool false, .bool false, .slice none 0 0] 93)).drew.heap[w1.heap.size]? = some (.cells #[.int .u64 0, .int .u64 0, .bool false, .bool false, .slice none 0 0] 93 (0, 0)) := heap_alloc_at (w := w1)
            have hs4 : LSl en8 1 (w1.alloc (.cells #[.int .u64 0, .int .u64 0, .bool false, .bool false, .slice none 0 0] 93)).drew (sv (s1, s2, s3)) (d.get (2 + m)) := LSl.below (w := w1) hs.rd hba
            obtain ⟨xb, hxb⟩ : ∃ xb, w1.heap.size = xb := ⟨_, rfl⟩
            have hxw : xb < (w1.alloc (.cells #[.int .u64 0, .int .u64 0, .bool false, .bool false, .slice none 0 0] 93)).drew.heap.size := by rw [← hxb]; exact lt_of_block hX4
            have hxl : w1.heap.size ≤ xb := by omega
            rw [hxb] at hX4 ⊢
            generalize (w1.alloc _).drew = w4 at *
            refine hK _ _ (HFR'.out w4 hba) ?_
            clear hK K
            refine t_show' rfl (fun K hK => ?_)
            go_simp
            refine (yunseal_uni w4 _ _ hs4 HSEC.out).mono ?_
            rintro e w5 ⟨hb5, code, q, a3, n3, c3, rfl, hO5, hq⟩
            have hb15 : Below w1.heap.size w1 w5 := hba.trans (hb5.mono hba.size)
            refine hK _ _ (HFR'.out _ hb15) ?_
            clear hK K
            iterate 3 (refine t_take rfl (fun K hK => ?_); go_simp; refine hK _ ?_; clear hK K)
            have hX5 := (hb5.block _ (lt_of_block hX4)).trans hX4
            have hne : ∀ r, (Value.slice a3 n3 c3).ownBlock = some r → r ≠ xb := fun r hr => by have := hO5.lo r hr; omega
            have hO6 := hO5.mono hba.size
            obtain ⟨w9, hst, hh9, hm9⟩ := exec_storeB (ρ := fun _ => undef) (ty := 0) (pos := "") (after := #[]) (x := .tmp 0) (y := .tmp 0) (aggXP (q.ep : Nat) (q.ct : Nat) q.fi q.la (.slice a3 n3 c3)) hX5 rfl (oneXP _ _ _ _ _ _ _)
            refine t_skip rfl (hst _ _ _ _ _ _ _ _ rfl rfl) ?_
            iterate 1 (refine t_take rfl (fun K hK => ?_); go_simp; refine hK _ ?_; clear hK K)
            refine t_nil ?_
            have hb9 := hb15.trans (hm9.below hb15.size fun x hx e => by omega)
            have hO9 := hO6.kept hm9.size fun r hr => hm9.block r (hO6.lt hr) (hne r hr)
            have HO9 := Lib.hid hO9
            have HB9 := Lib.hid hb9
            have HH9 := Lib.hid hh9
            have HQ := Lib.hid hq
            clear hO9 hb9 hh9 hm9 hst hq hO6 hO5 hb5 hba hX4 hX5 hb15
            go_wp2
            go_meet
            case rel => exact ⟨xb, code, q, a3, n3, c3, rfl, rfl, HH9.out, HO9.out, HQ.out, HB9.out, hxl⟩
        · go_simp
          have hba : Below w1.heap.size w1 (w1.alloc (.cells #[.int .u64 0, .int .u64 0, .bool false, .bool false, .slice none 0 0] 93)).drew := ((Below.refl w1.heap.size w1).alloc (Nat.le_refl _) _).drew
          have hX4 : (w1.alloc (.cells #[.int .u64 0, .int .u64 0, .bool false, .bool false, .slice none 0 0] 93)).drew.heap[w1.heap.size]? = some (.cells #[.int .u64 0, .int .u64 0, .bool false, .bool false, .slice none 0 0] 93 (0, 0)) := heap_alloc_at (w := w1)
          obtain ⟨xb, hxb⟩ : ∃ xb, w1.heap.size = xb := ⟨_, rfl⟩
          have hxw : xb < (w1.alloc (.cells #[.int .u64 0, .int .u64 0, .bool false, .bool false, .slice none 0 0] 93)).drew.heap.size := by rw [← hxb]; exact lt_of_block hX4
          have hxl : w1.heap.size ≤ xb := by omega
          rw [hxb] at hX4 ⊢
          generalize (w1.alloc _).drew = w4 at *
          refine hK _ _ (HFR'.out w4 hba) ?_
          clear hK K
          refine t_show' rfl (fun K hK => ?_)
          go_simp
          refine (HIS.out _ hba).mono ?_
          rintro e w5 ⟨⟨s, rfl, hs⟩, hw⟩
          obtain rfl := hw.symm
          obtain ⟨s1, s2, s3⟩ := s
          refine hK _ _ (HFR'.out w4 hba) ?_
          clear hK K hw
          refine t_show' rfl (fun K hK => ?_)
          go_simp
          refine (yunseal_uni w4 _ _ hs.rd HSEC.out).mono ?_
          rintro e w5 ⟨hb5, code, q, a3, n3, c3, rfl, hO5, hq⟩
          have hb15 : Below w1.heap.size w1 w5 := hba.trans (hb5.mono hba.size)
          refine hK _ _ (HFR'.out _ hb15) ?_
          clear hK K
          iterate 3 (refine t_take rfl (fun K hK => ?_); go_simp; refine hK _ ?_; clear hK K)
          have hX5 := (hb5.block _ (lt_of_block hX4)).trans hX4
          have hne : ∀ r, (Value.slice a3 n3 c3).ownBlock = some r → r ≠ xb := fun r hr => by have := hO5.lo r hr; omega
          have hO6 := hO5.mono hba.size
          obtain ⟨w9, hst, hh9, hm9⟩ := exec_storeB (ρ := fun _ => undef) (ty := 0) (pos := "") (after := #[]) (x := .tmp 0) (y := .tmp 0) (aggXP (q.ep : Nat) (q.ct : Nat) q.fi q.la (.slice a3 n3 c3)) hX5 rfl (oneXP _ _ _ _ _ _ _)
          refine t_skip rfl (hst _ _ _ _ _ _ _ _ rfl rfl) ?_
          iterate 1 (refine t_take rfl (fun K hK => ?_); go_simp; refine hK _ ?_; clear hK K)
          refine t_nil ?_
          have hb9 := hb15.trans (hm9.below hb15.size fun x hx e => by omega)
          have hO9 := hO6.kept hm9.size fun r hr => hm9.block r (hO6.lt hr) (hne r hr)
          have HO9 := Lib.hid hO9
          have HB9 := Lib.hid hb9
          have HH9 := Lib.hid hh9
          have HQ := Lib.hid hq
          clear hO9 hb9 hh9 hm9 hst hq hO6 hO5 hb5 hba hX4 hX5 hb15
          go_wp2
          go_meet
          case rel => exact ⟨xb, code, q, a3, n3, c3, rfl, rfl, HH9.out, HO9.out, HQ.out, HB9.out, hxl⟩
      case rest =>
      obtain ⟨xb, code, q, a3, nn, c3, rfl, rfl, hX, hO3, hq, hbc, hxl⟩ := hcut
      have hpu := pieceB_uni (n := n) (c := x + i) (by rw [HGI.out]; exact hq)
      obtain ⟨ep, ct, fi, la, da⟩ := q
      simp only at hX hO3 hpu
      have z0 := cell_of (o := 0) hX rfl
      have z1 := cell_of (o := 1) hX rfl
      have z2 := cell_of (o := 2) hX rfl
      have z3 := cell_of (o := 3) hX rfl
      have z5 := (hbc.cell (p := ⟨g, 5, none⟩) hgw1).trans hS.1
      obtain ⟨E0, hE0⟩ : ∃ E0, ∀ p0 r, acc = p0 :: r → p0.ep = E0 := by
        cases acc with
        | nil => exact ⟨0, fun p0 r e => by cases e⟩
        | cons p0 r => exact ⟨p0.ep, fun p1 r1 e => by cases e; rfl⟩
      obtain ⟨ob, hob⟩ : ∃ ob, i ≠ 0 → (Value.slice o1 o2 o3 = .slice (some ⟨ob, 0, none⟩) o2 o3 ∧ 0 < o2 ∧ wc.cell? ⟨ob, 0, none⟩ = some (.int .u64 (E0 : Nat))) := by
        by_cases hi0 : i = 0
        · exact ⟨0, fun e => absurd hi0 e⟩
        · obtain ⟨y, hy⟩ : ∃ y, xs[0]? = some y := ⟨_, List.getElem?_eq_getElem (by omega)⟩
          obtain ⟨b', off', cap', hv', hb', hl'⟩ := (HO1.out.sl elPx.len).at_ hy
          obtain ⟨rfl, rfl, rfl⟩ : o1 = some ⟨b', off', none⟩ ∧ o2 = xs.length ∧ o3 = cap' := by simpa using hv'
          obtain ⟨rfl, -⟩ := HO1.out.whole
          refine ⟨b', fun _ => ⟨rfl, by omega, ?_⟩⟩
          have hc := hl' 0 (by simp [enPc])
          have hay : ∃ r, acc = y.1 :: r := by
            have h0 : acc[0]? = some y.1 := by rw [← HXS.out, List.getElem?_map, hy]; rfl
            cases hacc : acc with
            | nil => rw [hacc] at h0; cases h0
            | cons p0 r => rw [hacc] at h0; cases h0; exact ⟨r, rfl⟩
          obtain ⟨r, hr⟩ := hay
          have he := hE0 _ _ hr
          have := (hbc.cell (p := ⟨b', 0 + 0 * 5 + 0, none⟩) hb').trans hc
          simp [enPc] at this
          rw [he] at this
          exact this
      obtain ⟨bad, hbad⟩ : ∃ b, decide (¬ (code = 0 ∧ ct = x + i ∧ fi = decide (i = 0) ∧ floor ≤ ep ∧ (i ≠ 0 → ep = E0))) = b := ⟨_, rfl⟩
      have hep64 : True := trivial
      have HBAD := Lib.hid hbad
      have HPU := Lib.hid hpu
      have HQ := Lib.hid hq
      have HX := Lib.hid hX
      have HO3 := Lib.hid hO3
      have HBC := Lib.hid hbc
      have HE0 := Lib.hid hE0
      have HOB := Lib.hid hob
      have hfli : (floor : Int) < 9223372036854775808 := by omega
      clear hbad hpu hX hO3 hbc hE0 hob
      go_upto_region 6 with fail
      go_cut [89] (fun s wx => s = .bool bad ∧ wx = wc.drew)
      case first =>
        have hS : wc.drew.cell? ⟨xb, 1, none⟩ = some (.int .u64 (ct : Nat)) ∧ wc.drew.cell? ⟨g, 5, none⟩ = some (.int .u64 (x : Nat)) ∧ wc.drew.cell? ⟨xb, 2, none⟩ = some (.bool fi) ∧ wc.drew.cell? ⟨xb, 0, none⟩ = some (.int .u64 (ep : Nat)) ∧ (i ≠ 0 → wc.drew.cell? ⟨ob, 0, none⟩ = some (.int .u64 (E0 : Nat))) := ⟨z1, z5, z2, z0, fun e => (HOB.out e).2.2⟩
        clear z0 z1 z2 z3 z5
        by_cases hc0 : code = 0
        rotate_left
        · have hb : bad = true := by rw [← HBAD.out]; exact decide_eq_true fun e => hc0 e.1
          have hc4 : code = 4 := by
            rcases hq with ⟨h, -⟩ | ⟨h, -⟩
            · exact absurd h hc0
            · exact h
          subst hb hc4
          clear hc0 hq
          refine wp_region_g (fun w' => w'.cell? ⟨xb, 1, none⟩ = some (.int .u64 (ct : Nat)) ∧ w'.cell? ⟨g, 5, none⟩ = some (.int .u64 (x : Nat)) ∧ w'.cell? ⟨xb, 2, none⟩ = some (.bool fi) ∧ w'.cell? ⟨xb, 0, none⟩ = some (.int .u64 (ep : Nat)) ∧ (i ≠ 0 → w'.cell? ⟨ob, 0, none⟩ = some (.int .u64 (E0 : Nat)))) [(0, 1), (1, 1), (2, 1), (3, 1), (4, 0), (5, 1), (6, 1), (7, 1), (8, 0), (9, 1), (10, 1), (11, 1), (12, 1), (13, 1), (14, 1), (15, 0), (16, 1), (17, 1), (18, 1), (19, 1), (20, 1), (21, 1), (22, 0), (23, 1), (24, 1), (25, 1), (26, 1), (27, 1), (28, 1), (29, 1), (30, 1), (31, 0), (32, 1), (33, 1), (34, 1), (35, 0), (36, 1), (37, 1), (38, 1)] (by kernel_rfl) (by kernel_rfl) (by intro d v c a w h; cases d <;> exact h) ?_
          iterate 3 (refine g_take rfl rfl (fun K hK => ?_); go_simp; refine hK _ ?_; clear hK K)
          iterate 9 (refine g_offK rfl rfl (fun _ => hS) (fun K hK => ?_); go_simp; refine hK _ ?_; clear hK K)
          iterate 2 (refine g_take rfl rfl (fun K hK => ?_); go_simp; refine hK _ ?_; clear hK K)
          iterate 5 (refine g_offK rfl rfl (fun _ => hS) (fun K hK => ?_); go_simp; refine hK _ ?_; clear hK K)
          iterate 2 (refine g_take rfl rfl (fun K hK => ?_); go_simp; refine hK _ ?_; clear hK K)
          iterate 4 (refine g_offK rfl rfl (fun _ => hS) (fun K hK => ?_); go_simp; refine hK _ ?_; clear hK K)
          iterate 2 (refine g_take rfl rfl (fun K hK => ?_); go_simp; refine hK _ ?_; clear hK K)
          iterate 11 (refine g_offK rfl rfl (fun _ => hS) (fun K hK => ?_); go_simp; refine hK _ ?_; clear hK K)
          iterate 1 (refine g_take rfl rfl (fun K hK => ?_); go_simp; refine hK _ ?_; clear hK K)
          refine g_nil ?_
          clear hS
          go_wp2
          go_meet
          case rel => exact ⟨rfl, rfl⟩
        subst hc0
        clear hq
        by_cases hct : ct = x + i
        rotate_left
        · have hb : bad = true := by rw [← HBAD.out]; exact decide_eq_true fun e => hct e.2.1
          have hcn : (((ct : Nat) : Int) != ((x : Int) + (i : Int))) = true := by rw [bne_iff_ne]; omega
          subst hb
          clear hct
          refine wp_region_g (fun w' => w'.cell? ⟨xb, 1, none⟩ = some (.int .u64 (ct : Nat)) ∧ w'.cell? ⟨g, 5, none⟩ = some (.int .u64 (x : Nat)) ∧ w'.cell? ⟨xb, 2, none⟩ = some (.bool fi) ∧ w'.cell? ⟨xb, 0, none⟩ = some (.int .u64 (ep : Nat)) ∧ (i ≠ 0 → w'.cell? ⟨ob, 0, none⟩ = some (.int .u64 (E0 : Nat)))) [(0, 1), (1, 1), (2, 1), (3, 1), (4, 0), (5, 1), (6, 1), (7, 1), (8, 0), (9, 1), (10, 1), (11, 1), (12, 1), (13, 1), (14, 1), (15, 0), (16, 1), (17, 1), (18, 1), (19, 1), (20, 1), (21, 1), (22, 0), (23, 1), (24, 1), (25, 1), (26, 1), (27, 1), (28, 1), (29, 1), (30, 1), (31, 0), (32, 1), (33, 1), (34, 1), (35, 0), (36, 1), (37, 1), (38, 1)] (by kernel_rfl) (by kernel_rfl) (by intro d v c a w h; cases d <;> exact h) ?_
          iterate 3 (refine g_take rfl rfl (fun K hK => ?_); go_simp; refine hK _ ?_; clear hK K)
          iterate 1 (refine g_take rfl rfl (fun K hK => ?_); go_simp; refine hK _ ?_; clear hK K)
          refine g_read rfl rfl hS (fun w' h => exec_load1 ⟨⟨_, Tryz.underlying49, rfl⟩⟩ rfl h.1) ?_
          iterate 3 (refine g_take rfl rfl (fun K hK => ?_); go_simp; refine hK _ ?_; clear hK K)
          refine g_read rfl rfl hS (fun w' h => exec_load1 ⟨⟨_, Tryz.underlying49, rfl⟩⟩ rfl h.2.1) ?_
          iterate 3 (refine g_take rfl rfl (fun K hK => ?_); go_simp; refine hK _ ?_; clear hK K)
          iterate 2 (refine g_take rfl rfl (fun K hK => ?_); go_simp; refine hK _ ?_; clear hK K)
          iterate 5 (refine g_offK rfl rfl (fun _ => hS) (fun K hK => ?_); go_simp; refine hK _ ?_; clear hK K)
          iterate 2 (refine g_take rfl rfl (fun K hK => ?_); go_simp; refine hK _ ?_; clear hK K)
          iterate 4 (refine g_offK rfl rfl (fun _ => hS) (fun K hK => ?_); go_simp; refine hK _ ?_; clear hK K)
          iterate 2 (refine g_take rfl rfl (fun K hK => ?_); go_simp; refine hK _ ?_; clear hK K)
          iterate 11 (refine g_offK rfl rfl (fun _ => hS) (fun K hK => ?_); go_simp; refine hK _ ?_; clear hK K)
          iterate 1 (refine g_take rfl rfl (fun K hK => ?_); go_simp; refine hK _ ?_; clear hK K)
          refine g_nil ?_
          clear hS
          go_wp2
          go_meet
          case rel => exact ⟨rfl, rfl⟩
        have hcn : (((ct : Nat) : Int) != ((x : Int) + (i : Int))) = false := by rw [bne_eq_false_iff_eq]; omega
        by_cases hz0 : i = 0
        · have hi0 : (((i : Nat) : Int) == 0) = true := by rw [beq_iff_eq]; omega
          have hig : decide ((0 : Int) < ((i : Nat) : Int)) = false := decide_eq_false (by omega)
          have hig' : decide (0 < i) = false := decide_eq_false (by omega)
          cases fi with
          | false =>
            have hb : bad = true := by rw [← HBAD.out]; exact decide_eq_true fun e => by have := e.2.2.1; simp [hz0] at this
            subst hb
            have HCT := Lib.hid hct
            have HZ0 := Lib.hid hz0
            clear hct hz0
            refine wp_region_g (fun w' => w'.cell? ⟨xb, 1, none⟩ = some (.int .u64 (ct : Nat)) ∧ w'.cell? ⟨g, 5, none⟩ = some (.int .u64 (x : Nat)) ∧ w'.cell? ⟨xb, 2, none⟩ = some (.bool false) ∧ w'.cell? ⟨xb, 0, none⟩ = some (.int .u64 (ep : Nat)) ∧ (i ≠ 0 → w'.cell? ⟨ob, 0, none⟩ = some (.int .u64 (E0 : Nat)))) [(0, 1), (1, 1), (2, 1), (3, 1), (4, 0), (5, 1), (6, 1), (7, 1), (8, 0), (9, 1), (10, 1), (11, 1), (12, 1), (13, 1), (14, 1), (15, 0), (16, 1), (17, 1), (18, 1), (19, 1), (20, 1), (21, 1), (22, 0), (23, 1), (24, 1), (25, 1), (26, 1), (27, 1), (28, 1), (29, 1), (30, 1), (31, 0), (32, 1), (33, 1), (34, 1), (35, 0), (36, 1), (37, 1), (38, 1)] (by kernel_rfl) (by kernel_rfl) (by intro d v c a w h; cases d <;> exact h) ?_
            iterate 3 (refine g_take rfl rfl (fun K hK => ?_); go_simp; refine hK _ ?_; clear hK K)
            iterate 1 (refine g_take rfl rfl (fun K hK => ?_); go_simp; refine hK _ ?_; clear hK K)
            refine g_read rfl rfl hS (fun w' h => exec_load1 ⟨⟨_, Tryz.underlying49, rfl⟩⟩ rfl h.1) ?_
            iterate 3 (refine g_take rfl rfl (fun K hK => ?_); go_simp; refine hK _ ?_; clear hK K)
            refine g_read rfl rfl hS (fun w' h => exec_load1 ⟨⟨_, Tryz.underlying49, rfl⟩⟩ rfl h.2.1) ?_
            iterate 3 (refine g_take rfl rfl (fun K hK => ?_); go_simp; refine hK _ ?_; clear hK K)
            iterate 2 (refine g_take rfl rfl (fun K hK => ?_); go_simp; refine hK _ ?_; clear hK K)
            iterate 1 (refine g_take rfl rfl (fun K hK => ?_); go_simp; refine hK _ ?_; clear hK K)
            refine g_read rfl rfl hS (fun w' h => exec_load1 ⟨⟨_, Tryz.underlying4, rfl⟩⟩ rfl h.2.2.1) ?_
            iterate 3 (refine g_take rfl rfl (fun K hK => ?_); go_simp; refine hK _ ?_; clear hK K)
            iterate 2 (refine g_take rfl rfl (fun K hK => ?_); go_simp; refine hK _ ?_; clear hK K)
            iterate 4 (refine g_offK rfl rfl (fun _ => hS) (fun K hK => ?_); go_simp; refine hK _ ?_; clear hK K)
            iterate 2 (refine g_take rfl rfl (fun K hK => ?_); go_simp; refine hK _ ?_; clear hK K)
            iterate 11 (refine g_offK rfl rfl (fun _ => hS) (fun K hK => ?_); go_simp; refine hK _ ?_; clear hK K)
            iterate 1 (refine g_take rfl rfl (fun K hK => ?_); go_simp; refine hK _ ?_; clear hK K)
            refine g_nil ?_
            clear hS
            go_wp2
            go_meet
            case rel => exact ⟨rfl, rfl⟩
          | true =>
            by_cases hep : floor ≤ ep
            · have hen : decide (((ep : Nat) : Int) < ((floor : Nat) : Int)) = false := decide_eq_false (by omega)
              have hen' : decide (ep < floor) = false := decide_eq_false (by omega)
              have hb : bad = false := by rw [← HBAD.out]; exact decide_eq_false fun e => e ⟨rfl, hct, by simp [hz0], hep, fun h => absurd hz0 h⟩
              subst hb
              have HCT := Lib.hid hct
              have HZ0 := Lib.hid hz0
              clear hct hz0 hep
              refine wp_region_g (fun w' => w'.cell? ⟨xb, 1, none⟩ = some (.int .u64 (ct : Nat)) ∧ w'.cell? ⟨g, 5, none⟩ = some (.int .u64 (x : Nat)) ∧ w'.cell? ⟨xb, 2, none⟩ = some (.bool true) ∧ w'.cell? ⟨xb, 0, none⟩ = some (.int .u64 (ep : Nat)) ∧ (i ≠ 0 → w'.cell? ⟨ob, 0, none⟩ = some (.int .u64 (E0 : Nat)))) [(0, 1), (1, 1), (2, 1), (3, 1), (4, 0), (5, 1), (6, 1), (7, 1), (8, 0), (9, 1), (10, 1), (11, 1), (12, 1), (13, 1), (14, 1), (15, 0), (16, 1), (17, 1), (18, 1), (19, 1), (20, 1), (21, 1), (22, 0), (23, 1), (24, 1), (25, 1), (26, 1), (27, 1), (28, 1), (29, 1), (30, 1), (31, 0), (32, 1), (33, 1), (34, 1), (35, 0), (36, 1), (37, 1), (38, 1)] (by kernel_rfl) (by kernel_rfl) (by intro d v c a w h; cases d <;> exact h) ?_
              iterate 3 (refine g_take rfl rfl (fun K hK => ?_); go_simp; refine hK _ ?_; clear hK K)
              iterate 1 (refine g_take rfl rfl (fun K hK => ?_); go_simp; refine hK _ ?_; clear hK K)
              refine g_read rfl rfl hS (fun w' h => exec_load1 ⟨⟨_, Tryz.underlying49, rfl⟩⟩ rfl h.1) ?_
              iterate 3 (refine g_take rfl rfl (fun K hK => ?_); go_simp; refine hK _ ?_; clear hK K)
              refine g_read rfl rfl hS (fun w' h => exec_load1 ⟨⟨_, Tryz.underlying49, rfl⟩⟩ rfl h.2.1) ?_
              iterate 3 (refine g_take rfl rfl (fun K hK => ?_); go_simp; refine hK _ ?_; clear hK K)
              iterate 2 (refine g_take rfl rfl (fun K hK => ?_); go_simp; refine hK _ ?_; clear hK K)
              iterate 1 (refine g_take rfl rfl (fun K hK => ?_); go_simp; refine hK _ ?_; clear hK K)
              refine g_read rfl rfl hS (fun w' h => exec_load1 ⟨⟨_, Tryz.underlying4, rfl⟩⟩ rfl h.2.2.1) ?_
              iterate 3 (refine g_take rfl rfl (fun K hK => ?_); go_simp; refine hK _ ?_; clear hK K)
              iterate 2 (refine g_take rfl rfl (fun K hK => ?_); go_simp; refine hK _ ?_; clear hK K)
              iterate 1 (refine g_take rfl rfl (fun K hK => ?_); go_simp; refine hK _ ?_; clear hK K)
              refine g_read rfl rfl hS (fun w' h => exec_load1 ⟨⟨_, Tryz.underlying49, rfl⟩⟩ rfl h.2.2.2.1) ?_
              iterate 2 (refine g_take rfl rfl (fun K hK => ?_); go_simp; refine hK _ ?_; clear hK K)
              iterate 2 (refine g_take rfl rfl (fun K hK => ?_); go_simp; refine hK _ ?_; clear hK K)
              iterate 3 (refine g_take rfl rfl (fun K hK => ?_); go_simp; refine hK _ ?_; clear hK K)
              iterate 7 (refine g_offK rfl rfl (fun _ => hS) (fun K hK => ?_); go_simp; refine hK _ ?_; clear hK K)
              iterate 1 (refine g_take rfl rfl (fun K hK => ?_); go_simp; refine hK _ ?_; clear hK K)
              iterate 1 (refine g_take rfl rfl (fun K hK => ?_); go_simp; refine hK _ ?_; clear hK K)
              refine g_nil ?_
              clear hS
              go_wp2
              go_meet
              case rel => exact ⟨rfl, rfl⟩
            · have hen : decide (((ep : Nat) : Int) < ((floor : Nat) : Int)) = true := decide_eq_true (by omega)
              have hen' : decide (ep < floor) = true := decide_eq_true (by omega)
              have hb : bad = true := by rw [← HBAD.out]; exact decide_eq_true fun e => hep e.2.2.2.1
              subst hb
              have HCT := Lib.hid hct
              have HZ0 := Lib.hid hz0
              clear hct hz0 hep
              refine wp_region_g (fun w' => w'.cell? ⟨xb, 1, none⟩ = some (.int .u64 (ct : Nat)) ∧ w'.cell? ⟨g, 5, none⟩ = some (.int .u64 (x : Nat)) ∧ w'.cell? ⟨xb, 2, none⟩ = some (.bool true) ∧ w'.cell? ⟨xb, 0, none⟩ = some (.int .u64 (ep : Nat)) ∧ (i ≠ 0 → w'.cell? ⟨ob, 0, none⟩ = some (.int .u64 (E0 : Nat)))) [(0, 1), (1, 1), (2, 1), (3, 1), (4, 0), (5, 1), (6, 1), (7, 1), (8, 0), (9, 1), (10, 1), (11, 1), (12, 1), (13, 1), (14, 1), (15, 0), (16, 1), (17, 1), (18, 1), (19, 1), (20, 1), (21, 1), (22, 0), (23, 1), (24, 1), (25, 1), (26, 1), (27, 1), (28, 1), (29, 1), (30, 1), (31, 0), (32, 1), (33, 1), (34, 1), (35, 0), (36, 1), (37, 1), (38, 1)] (by kernel_rfl) (by kernel_rfl) (by intro d v c a w h; cases d <;> exact h) ?_
              iterate 3 (refine g_take rfl rfl (fun K hK => ?_); go_simp; refine hK _ ?_; clear hK K)
              iterate 1 (refine g_take rfl rfl (fun K hK => ?_); go_simp; refine hK _ ?_; clear hK K)
              refine g_read rfl rfl hS (fun w' h => exec_load1 ⟨⟨_, Tryz.underlying49, rfl⟩⟩ rfl h.1) ?_
              iterate 3 (refine g_take rfl rfl (fun K hK => ?_); go_simp; refine hK _ ?_; clear hK K)
              refine g_read rfl rfl hS (fun w' h => exec_load1 ⟨⟨_, Tryz.underlying49, rfl⟩⟩ rfl h.2.1) ?_
              iterate 3 (refine g_take rfl rfl (fun K hK => ?_); go_simp; refine hK _ ?_; clear hK K)
              iterate 2 (refine g_take rfl rfl (fun K hK => ?_); go_simp; refine hK _ ?_; clear hK K)
              iterate 1 (refine g_take rfl rfl (fun K hK => ?_); go_simp; refine hK _ ?_; clear hK K)
              refine g_read rfl rfl hS (fun w' h => exec_load1 ⟨⟨_, Tryz.underlying4, rfl⟩⟩ rfl h.2.2.1) ?_
              iterate 3 (refine g_take rfl rfl (fun K hK => ?_); go_simp; refine hK _ ?_; clear hK K)
              iterate 2 (refine g_take rfl rfl (fun K hK => ?_); go_simp; refine hK _ ?_; clear hK K)
              iterate 1 (refine g_take rfl rfl (fun K hK => ?_); go_simp; refine hK _ ?_; clear hK K)
              refine g_read rfl rfl hS (fun w' h => exec_load1 ⟨⟨_, Tryz.underlying49, rfl⟩⟩ rfl h.2.2.2.1) ?_
              iterate 2 (refine g_take rfl rfl (fun K hK => ?_); go_simp; refine hK _ ?_; clear hK K)
              iterate 2 (refine g_take rfl rfl (fun K hK => ?_); go_simp; refine hK _ ?_; clear hK K)
              iterate 11 (refine g_offK rfl rfl (fun _ => hS) (fun K hK => ?_); go_simp; refine hK _ ?_; clear hK K)
              iterate 1 (refine g_take rfl rfl (fun K hK => ?_); go_simp; refine hK _ ?_; clear hK K)
              refine g_nil ?_
              clear hS
              go_wp2
              go_meet
              case rel => exact ⟨rfl, rfl⟩
        · have hi0 : (((i : Nat) : Int) == 0) = false := by rw [beq_eq_false_iff_ne]; omega
          have hig : decide ((0 : Int) < ((i : Nat) : Int)) = true := decide_eq_true (by omega)
          have hig' : decide (0 < i) = true := decide_eq_true (by omega)
          cases fi with
          | true =>
            have hb : bad = true := by rw [← HBAD.out]; exact decide_eq_true fun e => by have := e.2.2.1; simp [hz0] at this
            subst hb
            have HCT := Lib.hid hct
            have HZ0 := Lib.hid hz0
            clear hct hz0
            refine wp_region_g (fun w' => w'.cell? ⟨xb, 1, none⟩ = some (.int .u64 (ct : Nat)) ∧ w'.cell? ⟨g, 5, none⟩ = some (.int .u64 (x : Nat)) ∧ w'.cell? ⟨xb, 2, none⟩ = some (.bool true) ∧ w'.cell? ⟨xb, 0, none⟩ = some (.int .u64 (ep : Nat)) ∧ (i ≠ 0 → w'.cell? ⟨ob, 0, none⟩ = some (.int .u64 (E0 : Nat)))) [(0, 1), (1, 1), (2, 1), (3, 1), (4, 0), (5, 1), (6, 1), (7, 1), (8, 0), (9, 1), (10, 1), (11, 1), (12, 1), (13, 1), (14, 1), (15, 0), (16, 1), (17, 1), (18, 1), (19, 1), (20, 1), (21, 1), (22, 0), (23, 1), (24, 1), (25, 1), (26, 1), (27, 1), (28, 1), (29, 1), (30, 1), (31, 0), (32, 1), (33, 1), (34, 1), (35, 0), (36, 1), (37, 1), (38, 1)] (by kernel_rfl) (by kernel_rfl) (by intro d v c a w h; cases d <;> exact h) ?_
            iterate 3 (refine g_take rfl rfl (fun K hK => ?_); go_simp; refine hK _ ?_; clear hK K)
            iterate 1 (refine g_take rfl rfl (fun K hK => ?_); go_simp; refine hK _ ?_; clear hK K)
            refine g_read rfl rfl hS (fun w' h => exec_load1 ⟨⟨_, Tryz.underlying49, rfl⟩⟩ rfl h.1) ?_
            iterate 3 (refine g_take rfl rfl (fun K hK => ?_); go_simp; refine hK _ ?_; clear hK K)
            refine g_read rfl rfl hS (fun w' h => exec_load1 ⟨⟨_, Tryz.underlying49, rfl⟩⟩ rfl h.2.1) ?_
            iterate 3 (refine g_take rfl rfl (fun K hK => ?_); go_simp; refine hK _ ?_; clear hK K)
            iterate 2 (refine g_take rfl rfl (fun K hK => ?_); go_simp; refine hK _ ?_; clear hK K)
            iterate 1 (refine g_take rfl rfl (fun K hK => ?_); go_simp; refine hK _ ?_; clear hK K)
            refine g_read rfl rfl hS (fun w' h => exec_load1 ⟨⟨_, Tryz.underlying4, rfl⟩⟩ rfl h.2.2.1) ?_
            iterate 3 (refine g_take rfl rfl (fun K hK => ?_); go_simp; refine hK _ ?_; clear hK K)
            iterate 2 (refine g_take rfl rfl (fun K hK => ?_); go_simp; refine hK _ ?_; clear hK K)
            iterate 4 (refine g_offK rfl rfl (fun _ => hS) (fun K hK => ?_); go_simp; refine hK _ ?_; clear hK K)
            iterate 2 (refine g_take rfl rfl (fun K hK => ?_); go_simp; refine hK _ ?_; clear hK K)
            iterate 11 (refine g_offK rfl rfl (fun _ => hS) (fun K hK => ?_); go_simp; refine hK _ ?_; clear hK K)
            iterate 1 (refine g_take rfl rfl (fun K hK => ?_); go_simp; refine hK _ ?_; clear hK K)
            refine g_nil ?_
            clear hS
            go_wp2
            go_meet
            case rel => exact ⟨rfl, rfl⟩
          | false =>
            by_cases hep : floor ≤ ep
            · have hen : decide (((ep : Nat) : Int) < ((floor : Nat) : Int)) = false := decide_eq_false (by omega)
              have hen' : decide (ep < floor) = false := decide_eq_false (by omega)
              have hne0 := hz0
              obtain ⟨hov, ho2, -⟩ := HOB.out hz0
              obtain rfl : o1 = some ⟨ob, 0, none⟩ := by simpa using hov
              have hee : (((ep : Nat) : Int) != ((E0 : Nat) : Int)) = bad := by
                rw [← HBAD.out]
                by_cases h : ep = E0
                · rw [bne_eq_false_iff_eq.2 (by omega)]
                  symm
                  exact decide_eq_false fun e => e ⟨rfl, hct, by simp [hz0], hep, fun _ => h⟩
                · rw [bne_iff_ne.2 (by omega)]
                  symm
                  exact decide_eq_true fun e => h (e.2.2.2.2 hz0)
              have ho2i : (0 : Int) < ((o2 : Nat) : Int) := by omega
              have HCT := Lib.hid hct
              have HZ0 := Lib.hid hz0
              have HHO := Lib.hid hov
              cases bad with
              | true =>
                clear hct hz0 hep hov
                refine wp_region_g (fun w' => w'.cell? ⟨xb, 1, none⟩ = some (.int .u64 (ct : Nat)) ∧ w'.cell? ⟨g, 5, none⟩ = some (.int .u64 (x : Nat)) ∧ w'.cell? ⟨xb, 2, none⟩ = some (.bool false) ∧ w'.cell? ⟨xb, 0, none⟩ = some (.int .u64 (ep : Nat)) ∧ (i ≠ 0 → w'.cell? ⟨ob, 0, none⟩ = some (.int .u64 (E0 : Nat)))) [(0, 1), (1, 1), (2, 1), (3, 1), (4, 0), (5, 1), (6, 1), (7, 1), (8, 0), (9, 1), (10, 1), (11, 1), (12, 1), (13, 1), (14, 1), (15, 0), (16, 1), (17, 1), (18, 1), (19, 1), (20, 1), (21, 1), (22, 0), (23, 1), (24, 1), (25, 1), (26, 1), (27, 1), (28, 1), (29, 1), (30, 1), (31, 0), (32, 1), (33, 1), (34, 1), (35, 0), (36, 1), (37, 1), (38, 1)] (by kernel_rfl) (by kernel_rfl) (by intro d v c a w h; cases d <;> exact h) ?_
                iterate 3 (refine g_take rfl rfl (fun K hK => ?_); go_simp; refine hK _ ?_; clear hK K)
                iterate 1 (refine g_take rfl rfl (fun K hK => ?_); go_simp; refine hK _ ?_; clear hK K)
                refine g_read rfl rfl hS (fun w' h => exec_load1 ⟨⟨_, Tryz.underlying49, rfl⟩⟩ rfl h.1) ?_
                iterate 3 (refine g_take rfl rfl (fun K hK => ?_); go_simp; refine hK _ ?_; clear hK K)
                refine g_read rfl rfl hS (fun w' h => exec_load1 ⟨⟨_, Tryz.underlying49, rfl⟩⟩ rfl h.2.1) ?_
                iterate 3 (refine g_take rfl rfl (fun K hK => ?_); go_simp; refine hK _ ?_; clear hK K)
                iterate 2 (refine g_take rfl rfl (fun K hK => ?_); go_simp; refine hK _ ?_; clear hK K)
                iterate 1 (refine g_take rfl rfl (fun K hK => ?_); go_simp; refine hK _ ?_; clear hK K)
                refine g_read rfl rfl hS (fun w' h => exec_load1 ⟨⟨_, Tryz.underlying4, rfl⟩⟩ rfl h.2.2.1) ?_
                iterate 3 (refine g_take rfl rfl (fun K hK => ?_); go_simp; refine hK _ ?_; clear hK K)
                iterate 2 (refine g_take rfl rfl (fun K hK => ?_); go_simp; refine hK _ ?_; clear hK K)
                iterate 1 (refine g_take rfl rfl (fun K hK => ?_); go_simp; refine hK _ ?_; clear hK K)
                refine g_read rfl rfl hS (fun w' h => exec_load1 ⟨⟨_, Tryz.underlying49, rfl⟩⟩ rfl h.2.2.2.1) ?_
                iterate 2 (refine g_take rfl rfl (fun K hK => ?_); go_simp; refine hK _ ?_; clear hK K)
                iterate 2 (refine g_take rfl rfl (fun K hK => ?_); go_simp; refine hK _ ?_; clear hK K)
                iterate 3 (refine g_take rfl rfl (fun K hK => ?_); go_simp; refine hK _ ?_; clear hK K)
                iterate 1 (refine g_take rfl rfl (fun K hK => ?_); go_simp; refine hK _ ?_; clear hK K)
                refine g_read rfl rfl hS (fun w' h => exec_load1 ⟨⟨_, Tryz.underlying49, rfl⟩⟩ rfl h.2.2.2.1) ?_
                iterate 3 (refine g_take rfl rfl (fun K hK => ?_); go_simp; refine hK _ ?_; clear hK K)
                refine g_read rfl rfl hS (fun w' h => exec_load1 ⟨⟨_, Tryz.underlying49, rfl⟩⟩ rfl (h.2.2.2.2 hne0)) ?_
                iterate 1 (refine g_take rfl rfl (fun K hK => ?_); go_simp; refine hK _ ?_; clear hK K)
                iterate 1 (refine g_take rfl rfl (fun K hK => ?_); go_simp; refine hK _ ?_; clear hK K)
                iterate 1 (refine g_take rfl rfl (fun K hK => ?_); go_simp; refine hK _ ?_; clear hK K)
                refine g_nil ?_
                clear hS
                go_wp2
                go_meet
                case rel => exact ⟨rfl, rfl⟩
              | false =>
                clear hct hz0 hep hov
                refine wp_region_g (fun w' => w'.cell? ⟨xb, 1, none⟩ = some (.int .u64 (ct : Nat)) ∧ w'.cell? ⟨g, 5, none⟩ = some (.int .u64 (x : Nat)) ∧ w'.cell? ⟨xb, 2, none⟩ = some (.bool false) ∧ w'.cell? ⟨xb, 0, none⟩ = some (.int .u64 (ep : Nat)) ∧ (i ≠ 0 → w'.cell? ⟨ob, 0, none⟩ = some (.int .u64 (E0 : Nat)))) [(0, 1), (1, 1), (2, 1), (3, 1), (4, 0), (5, 1), (6, 1), (7, 1), (8, 0), (9, 1), (10, 1), (11, 1), (12, 1), (13, 1), (14, 1), (15, 0), (16, 1), (17, 1), (18, 1), (19, 1), (20, 1), (21, 1), (22, 0), (23, 1), (24, 1), (25, 1), (26, 1), (27, 1), (28, 1), (29, 1), (30, 1), (31, 0), (32, 1), (33, 1), (34, 1), (35, 0), (36, 1), (37, 1), (38, 1)] (by kernel_rfl) (by kernel_rfl) (by intro d v c a w h; cases d <;> exact h) ?_
                iterate 3 (refine g_take rfl rfl (fun K hK => ?_); go_simp; refine hK _ ?_; clear hK K)
                iterate 1 (refine g_take rfl rfl (fun K hK => ?_); go_simp; refine hK _ ?_; clear hK K)
                refine g_read rfl rfl hS (fun w' h => exec_load1 ⟨⟨_, Tryz.underlying49, rfl⟩⟩ rfl h.1) ?_
                iterate 3 (refine g_take rfl rfl (fun K hK => ?_); go_simp; refine hK _ ?_; clear hK K)
                refine g_read rfl rfl hS (fun w' h => exec_load1 ⟨⟨_, Tryz.underlying49, rfl⟩⟩ rfl h.2.1) ?_
                iterate 3 (refine g_take rfl rfl (fun K hK => ?_); go_simp; refine hK _ ?_; clear hK K)
                iterate 2 (refine g_take rfl rfl (fun K hK => ?_); go_simp; refine hK _ ?_; clear hK K)
                iterate 1 (refine g_take rfl rfl (fun K hK => ?_); go_simp; refine hK _ ?_; clear hK K)
                refine g_read rfl rfl hS (fun w' h => exec_load1 ⟨⟨_, Tryz.underlying4, rfl⟩⟩ rfl h.2.2.1) ?_
                iterate 3 (refine g_take rfl rfl (fun K hK => ?_); go_simp; refine hK _ ?_; clear hK K)
                iterate 2 (refine g_take rfl rfl (fun K hK => ?_); go_simp; refine hK _ ?_; clear hK K)
                iterate 1 (refine g_take rfl rfl (fun K hK => ?_); go_simp; refine hK _ ?_; clear hK K)
                refine g_read rfl rfl hS (fun w' h => exec_load1 ⟨⟨_, Tryz.underlying49, rfl⟩⟩ rfl h.2.2.2.1) ?_
                iterate 2 (refine g_take rfl rfl (fun K hK => ?_); go_simp; refine hK _ ?_; clear hK K)
                iterate 2 (refine g_take rfl rfl (fun K hK => ?_); go_simp; refine hK _ ?_; clear hK K)
                iterate 3 (refine g_take rfl rfl (fun K hK => ?_); go_simp; refine hK _ ?_; clear hK K)
                iterate 1 (refine g_take rfl rfl (fun K hK => ?_); go_simp; refine hK _ ?_; clear hK K)
                refine g_read rfl rfl hS (fun w' h => exec_load1 ⟨⟨_, Tryz.underlying49, rfl⟩⟩ rfl h.2.2.2.1) ?_
                iterate 3 (refine g_take rfl rfl (fun K hK => ?_); go_simp; refine hK _ ?_; clear hK K)
                refine g_read rfl rfl hS (fun w' h => exec_load1 ⟨⟨_, Tryz.underlying49, rfl⟩⟩ rfl (h.2.2.2.2 hne0)) ?_
                iterate 1 (refine g_take rfl rfl (fun K hK => ?_); go_simp; refine hK _ ?_; clear hK K)
                iterate 1 (refine g_take rfl rfl (fun K hK => ?_); go_simp; refine hK _ ?_; clear hK K)
                iterate 1 (refine g_take rfl rfl (fun K hK => ?_); go_simp; refine hK _ ?_; clear hK K)
                refine g_nil ?_
                clear hS
                go_wp2
                go_meet
                case rel => exact ⟨rfl, rfl⟩
            · have hen : decide (((ep : Nat) : Int) < ((floor : Nat) : Int)) = true := decide_eq_true (by omega)
              have hen' : decide (ep < floor) = true := decide_eq_true (by omega)
              have hb : bad = true := by rw [← HBAD.out]; exact decide_eq_true fun e => hep e.2.2.2.1
              subst hb
              have HCT := Lib.hid hct
              have HZ0 := Lib.hid hz0
              clear hct hz0 hep
              refine wp_region_g (fun w' => w'.cell? ⟨xb, 1, none⟩ = some (.int .u64 (ct : Nat)) ∧ w'.cell? ⟨g, 5, none⟩ = some (.int .u64 (x : Nat)) ∧ w'.cell? ⟨xb, 2, none⟩ = some (.bool false) ∧ w'.cell? ⟨xb, 0, none⟩ = some (.int .u64 (ep : Nat)) ∧ (i ≠ 0 → w'.cell? ⟨ob, 0, none⟩ = some (.int .u64 (E0 : Nat)))) [(0, 1), (1, 1), (2, 1), (3, 1), (4, 0), (5, 1), (6, 1), (7, 1), (8, 0), (9, 1), (10, 1), (11, 1), (12, 1), (13, 1), (14, 1), (15, 0), (16, 1), (17, 1), (18, 1), (19, 1), (20, 1), (21, 1), (22, 0), (23, 1), (24, 1), (25, 1), (26, 1), (27, 1), (28, 1), (29, 1), (30, 1), (31, 0), (32, 1), (33, 1), (34, 1), (35, 0), (36, 1), (37, 1), (38, 1)] (by kernel_rfl) (by kernel_rfl) (by intro d v c a w h; cases d <;> exact h) ?_
              iterate 3 (refine g_take rfl rfl (fun K hK => ?_); go_simp; refine hK _ ?_; clear hK K)
              iterate 1 (refine g_take rfl rfl (fun K hK => ?_); go_simp; refine hK _ ?_; clear hK K)
              refine g_read rfl rfl hS (fun w' h => exec_load1 ⟨⟨_, Tryz.underlying49, rfl⟩⟩ rfl h.1) ?_
              iterate 3 (refine g_take rfl rfl (fun K hK => ?_); go_simp; refine hK _ ?_; clear hK K)
              refine g_read rfl rfl hS (fun w' h => exec_load1 ⟨⟨_, Tryz.underlying49, rfl⟩⟩ rfl h.2.1) ?_
              iterate 3 (refine g_take rfl rfl (fun K hK => ?_); go_simp; refine hK _ ?_; clear hK K)
              iterate 2 (refine g_take rfl rfl (fun K hK => ?_); go_simp; refine hK _ ?_; clear hK K)
              iterate 1 (refine g_take rfl rfl (fun K hK => ?_); go_simp; refine hK _ ?_; clear hK K)
              refine g_read rfl rfl hS (fun w' h => exec_load1 ⟨⟨_, Tryz.underlying4, rfl⟩⟩ rfl h.2.2.1) ?_
              iterate 3 (refine g_take rfl rfl (fun K hK => ?_); go_simp; refine hK _ ?_; clear hK K)
              iterate 2 (refine g_take rfl rfl (fun K hK => ?_); go_simp; refine hK _ ?_; clear hK K)
              iterate 1 (refine g_take rfl rfl (fun K hK => ?_); go_simp; refine hK _ ?_; clear hK K)
              refine g_read rfl rfl hS (fun w' h => exec_load1 ⟨⟨_, Tryz.underlying49, rfl⟩⟩ rfl h.2.2.2.1) ?_
              iterate 2 (refine g_take rfl rfl (fun K hK => ?_); go_simp; refine hK _ ?_; clear hK K)
              iterate 2 (refine g_take rfl rfl (fun K hK => ?_); go_simp; refine hK _ ?_; clear hK K)
              iterate 11 (refine g_offK rfl rfl (fun _ => hS) (fun K hK => ?_); go_simp; refine hK _ ?_; clear hK K)
              iterate 1 (refine g_take rfl rfl (fun K hK => ?_); go_simp; refine hK _ ?_; clear hK K)
              refine g_nil ?_
              clear hS
              go_wp2
              go_meet
              case rel => exact ⟨rfl, rfl⟩
      case rest =>
      obtain ⟨rfl, hw⟩ := hcut
      subst hw
      have hfu : fr - i = (fr - i - 1) + 1 := by omega
      have hgo := HGO.out
      rw [hfu] at hgo
      have hI := HI.out
      have hpu' := HPU.out
      have hwcl : w.heap.size ≤ w1.heap.size := HB1.out.size
      have hbcw : Below w.heap.size w wc := HB1.out.trans (HBC.out.mono hwcl)
      have HBCW := Lib.hid hbcw
      cases bad with
      | true =>
        have hno := of_decide_eq_true HBAD.out
        have hnil : recGo d n x floor fr [] = [] := by
          rw [← hgo]
          refine rec_bad (fun q hq' hg => hno ?_) HFL.out
          rw [hI, hpu'] at hq'
          split at hq'
          · rename_i hcc
            cases hq'
            refine ⟨hcc.1, hcc.2, by have := hg.1; rw [hI] at this; exact this, hg.2.1, fun hne => ?_⟩
            cases hacc : acc with
            | nil => rw [hacc] at hI; exact absurd hI.symm hne
            | cons p0 r => exact (hg.2.2 p0 r hacc).trans (HE0.out p0 r hacc)
          · cases hq'
        have HNIL := Lib.hid hnil
        clear hnil hno hgo hI hpu' hbcw z0 z1 z2 z3 z5 hq
        go_wp2
        go_ret
        refine ⟨HBCW.out.drew, _, rfl, ?_⟩
        rw [HREC.out, HNIL.out]
        exact ⟨[], rfl, LOut.nil HBCW.out.drew.size, fun x hx => by cases hx⟩
      | false =>
        have hyes := Decidable.of_not_not (of_decide_eq_false HBAD.out)
        obtain ⟨y1, y2, y3, y4, y5⟩ := hyes
        have hgood : recGo d n x floor fr [] = if la = true then acc ++ [⟨ep, ct, fi, la, da⟩] else recGo d n x floor (fr - i - 1) (acc ++ [⟨ep, ct, fi, la, da⟩]) := by
          rw [← hgo]
          refine rec_good (q := ⟨ep, ct, fi, la, da⟩) ?_ ?_ y4 fun p0 r hacc => ?_
          · rw [hI, hpu', if_pos ⟨y1, y2⟩]
          · rw [hI]; exact y3
          · have hne : i ≠ 0 := by rw [← hI, hacc]; simp
            exact (y5 hne).trans (HE0.out p0 r hacc).symm
        have HG := Lib.hid hgood
        have HY4 := Lib.hid y4
        have hY5 : ∀ p0 r, acc ++ [(⟨ep, ct, fi, la, da⟩ : Pc)] = p0 :: r → floor ≤ p0.ep := fun p0 r e => by
          cases hacc : acc with
          | nil => rw [hacc] at e; cases e; exact y4
          | cons p1 r1 =>
            rw [hacc] at e
            have h1 : p1 = p0 := by simpa using (List.cons.inj e).1
            rw [← h1]
            exact HFL.out p1 r1 hacc
        have HY5 := Lib.hid hY5
        have hol : xs.length ≤ 1000000000 := by omega
        have hOc : LOut enPc 5 93 w.heap.size wc.drew (.slice o1 o2 o3) xs := (HO1.out.below HBC.out).below (Below.refl _ wc).drew
        have hDc : DatF w.heap.size wc.drew (.slice o1 o2 o3) xs := (HDT1.out.below HBC.out).below (Below.refl _ wc).drew
        have hXc : wc.drew.heap[xb]? = some (.cells #[.int .u64 (ep : Nat), .int .u64 (ct : Nat), .bool fi, .bool la, .slice a3 nn c3] 93 (0, 0)) := HX.out
        have h3c := HO3.out.below (Below.refl _ wc).drew
        obtain ⟨wd, hwd⟩ : ∃ wd, wc.drew = wd := ⟨_, rfl⟩
        have hbd : Below w.heap.size w wd := by rw [← hwd]; exact HBCW.out.drew
        have hs1d : w1.heap.size ≤ wd.heap.size := by rw [← hwd]; exact HBC.out.size
        rw [hwd] at hOc hDc hXc h3c ⊢
        have hxo : ¬ (Value.slice o1 o2 o3).ownBlock = some xb := fun e => by
          have h1 := HO1.out.lt e
          omega
        clear hgood hgo hI hpu' hbcw y1 y2 y3 y4 y5 z0 z1 z2 z3 z5 hq hwd hY5
        have HOC := Lib.hid hOc
        have HDC := Lib.hid hDc
        have HXC := Lib.hid hXc
        have H3C := Lib.hid h3c
        have HBD := Lib.hid hbd
        have HXO := Lib.hid hxo
        clear hOc hDc hXc h3c hbd hxo
        go_upto_region 9 with (first
          | ((with_reducible refine wpList_loadA (aggXP (ep : Nat) (ct : Nat) fi la (.slice a3 nn c3)) (lies_of HXC.out) ?_ ?_); rfl; go_frame)
          | ((with_reducible refine wpList_append1Y elPx HOC.out (⟨ep, ct, fi, la, da⟩, (a3, nn, c3)) hol ?_ ?_ ?_ ?_); rfl; rfl; rfl; (intro v4 w4 hO4 hm4 hv4; obtain ⟨a4, n4, c4, rfl⟩ := LOut.shape hO4; have HX4 := Lib.hid (hm4.heap HXC.out HXO.out); have HO4 := Lib.hid hO4; have HM4 := Lib.hid hm4; have HV4 := Lib.hid hv4; clear hO4 hm4 hv4); go_frame)
          | fail)
        have y3 := cell_of (o := 3) HX4.out rfl
        have hown3 : ∀ r, (sv ((a3, nn, c3) : Sv)).ownBlock = some r → w1.heap.size ≤ r ∧ r < wd.heap.size := fun r hr => ⟨H3C.out.lo r hr, H3C.out.lt hr⟩
        have hpush := DatF.pushX (w := w1) (x := (⟨ep, ct, fi, la, da⟩, (a3, nn, c3))) HDC.out HO1.out hs1d (H3C.out.sl el8.len) hown3 hwcl HM4.out HV4.out
        have hb4 : Below w.heap.size w w4 := HBD.out.trans (HM4.out.below HBD.out.size fun x hx e => by have := HOC.out.lo x e; omega)
        have hpcs : PcsX w.heap.size w4 (.slice a4 n4 c4) (acc ++ [⟨ep, ct, fi, la, da⟩]) := ⟨xs ++ [(⟨ep, ct, fi, la, da⟩, (a3, nn, c3))], by rw [List.map_append, HXS.out]; rfl, HO4.out, hpush⟩
        have HPCS := Lib.hid hpcs
        have HB4 := Lib.hid hb4
        clear hpush hpcs hb4 hown3
        cases la with
        | true =>
          go_wp2
          go_ret
          refine ⟨HB4.out, _, rfl, ?_⟩
          rw [HREC.out, HG.out, if_pos (by trivial)]
          exact HPCS.out
        | false =>
          go_wp2
          go_roundw
          case rel =>
            have hG := HG.out
            rw [if_neg (by decide)] at hG
            obtain ⟨xs', e1, e2, e3⟩ := HPCS.out
            refine ⟨acc ++ [⟨ep, ct, fi, false, da⟩], by rw [List.length_append, HI.out]; rfl, by rw [List.length_append, HI.out]; exact hifr, HB4.out, ⟨xs', e1, e2, e3⟩, ?_, HY5.out⟩
            rw [List.length_append, HI.out, hG]
            rfl
          case measure => simp [intOf]; omega
end Go.Proofs.YtmakpbjknklpiaaGreat
