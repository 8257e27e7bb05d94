/- Sync, Read, walked. -/
import Derived.Test.YtmakpbjknklpiaaGreatMgRpl13
import Derived.Test.YtmakpbjknklpiaaGreatMgRpl9
import Derived.Test.YtmakpbjknklpiaaGreatMgRpl12
/- The pieces of the next record, walked. -/
namespace Go.Tn.Dk
open Go.Tn.Bt Go.Tn.Lp
/-- The pieces of the record that is next, those at hand given. -/
def recGo (d : Dsk) (n next floor : Nat) : Nat → List Pc → List Pc
  | 0, _ => []
  | fuel + 1, acc => match pieceB d n (next + acc.length) with
    | none => []
    | some q => match acc with
      | [] => if q.fi = true ∧ floor ≤ q.ep then (if q.la = true then [q] else recGo d n next floor fuel [q]) else []
      | p0 :: r => if q.fi = false ∧ q.ep = p0.ep then (if q.la = true then p0 :: r ++ [q] else recGo d n next floor fuel (p0 :: r ++ [q])) else []
/-- What record answers. -/
def Lg.recordB (l : Lg) (d : Dsk) (floor : Nat) : List Pc := recGo d l.n l.next floor l.free []
end Go.Tn.Dk
namespace Go.Proofs.YtmakpbjknklpiaaGreat
open Go.RowKit Go.Tn Go.Tn.Bt Go.Tn.Lp Go.Tn.Dk
def slLen (v : Value) : Nat := match v with
  | .slice _ n _ => n
  | _ => 0
theorem DatF.push {B : Nat} {W w4 : World} {v v4 : Value} {xs : List (Pc × Sv)} {x : Pc × Sv} (hD : DatF B W v xs) (hO : LOut enPc 5 103 B W v xs) (hx : LSl en8 1 W (sv x.2) x.1.da) (hxl : ∀ r, (sv x.2).ownBlock = some r → B ≤ r ∧ r < W.heap.size ∧ v.ownBlock ≠ some r)
    (hm : Mod (fun b => v.ownBlock = some b) W w4) (hv : v4.ownBlock = v.ownBlock ∨ ∃ r, v4.ownBlock = some r ∧ W.heap.size ≤ r) : DatF B w4 v4 (xs ++ [x]) := by
  intro y hy
  have key : LSl en8 1 W (sv y.2) y.1.da ∧ ∀ r, (sv y.2).ownBlock = some r → B ≤ r ∧ r < W.heap.size ∧ v.ownBlock ≠ some r := by
    rcases List.mem_append.1 hy with hy | hy
    · exact hD y hy
    · rw [List.mem_singleton.1 hy]
      exact ⟨hx, hxl⟩
  refine ⟨key.1.mod hm fun r hr => (key.2 r hr).2.2, fun r hr => ⟨(key.2 r hr).1, Nat.lt_of_lt_of_le (key.2 r hr).2.1 hm.size, ?_⟩⟩
  rcases hv with hv | ⟨r', hv, hr'⟩
  · rw [hv]; exact (key.2 r hr).2.2
  · rw [hv]
    intro e
    cases e
    have := (key.2 _ hr).2.1
    omega
theorem recGo_none {d : Dsk} {n next floor fuel : Nat} {acc : List Pc} (hq : pieceB d n (next + acc.length) = none) : recGo d n next floor (fuel + 1) acc = [] := by
  simp only [recGo, hq]
theorem recGo_0 {d : Dsk} {n next floor fuel : Nat} {q : Pc} (hq : pieceB d n next = some q) : recGo d n next floor (fuel + 1) [] = if q.fi = true ∧ floor ≤ q.ep then (if q.la = true then [q] else recGo d n next floor fuel [q]) else [] := by
  simp only [recGo, List.length_nil, Nat.add_zero, hq]
theorem recGo_1 {d : Dsk} {n next floor fuel : Nat} {p0 q : Pc} {r : List Pc} (hq : pieceB d n (next + (p0 :: r).length) = some q) : recGo d n next floor (fuel + 1) (p0 :: r) = if q.fi = false ∧ q.ep = p0.ep then (if q.la = true then p0 :: r ++ [q] else recGo d n next floor fuel (p0 :: r ++ [q])) else [] := by
  simp only [recGo, hq]
/-- Where the loop stands. -/
def RecAt (w : World) (d : Dsk) (n next floor free : Nat) (ov : Value) (wi : World) : Prop := ∃ acc : List Pc, acc.length ≤ free ∧ slLen ov = acc.length ∧ Below w.heap.size w wi ∧ (∃ xs : List (Pc × Sv), xs.map (·.1) = acc ∧ LOut enPc 5 103 w.heap.size wi ov xs ∧ DatF w.heap.size wi ov xs) ∧ recGo d n next floor (free - acc.length) acc = recGo d n next floor free []
set_option maxRecDepth 20000 in
set_option maxHeartbeats 4000000 in
theorem record_any {w : World} {F FD : Nat → Prop} {g p : Nat} {l : Lg} {d : Dsk} (h : LAt w F g p l) (hd : DAt w FD p d) (hn2 : 2 ≤ l.n) (hn : l.n + 3 ≤ d.L.length) (ht : l.tail ≤ l.next) (hx : l.next < 2 ^ 42) (floor : Nat) (hfl : floor < 2 ^ 63) :
    Calls Tryz.prog 72 #[.pointer (some ⟨g, 0, none⟩), .int .u64 floor] w fun e w' => Below w.heap.size w w' ∧ ∃ v', e = .returned v' ∧ PcsO w.heap.size w' v' (l.recordB d floor) := by
  have hhi := hd.ok.hi
  have hlt := h.lt g h.fg
  obtain ⟨m, L, clk, hb, -⟩ := h.ex
  have HBK := Lib.hid hb
  have HL := Lib.hid h
  have HD := Lib.hid hd
  have hfe : l.free = l.n - (l.next - l.tail) := rfl
  have hpc := fun wi (hb : Below w.heap.size w wi) c hc => piece_any (h.below hb) (hd.below hb) hn2 hn c hc
  have HPC := Lib.hid hpc
  unfold Lg.recordB
  clear h hd hb hpc
  go_enter Tryz.func72, Tryz.ntmps72
  go_wp2_with fail
  go_loopw [5] (fun ov wi => RecAt w d l.n l.next floor l.free ov wi) (fun ov _ => l.free - slLen ov)
  case atStart => exact ⟨[], Nat.zero_le _, rfl, Below.refl _ _, ⟨[], rfl, LOut.nil (Nat.le_refl _), fun x hx => by cases hx⟩, rfl⟩
  case round =>
    obtain ⟨acc, hal, hsl, hb, ⟨xs, hxs, hO, hDt⟩, hrec⟩ := hrel
    have hxl : xs.length = acc.length := by rw [← hxs]; simp
    obtain ⟨ao, cap, rfl, hc1, hc2, hc3⟩ := hO.sl elPc.len
    rw [hxl] at hc1 hc3 hO hDt ⊢
    clear hxl hsl
    unfold maxLen at hc2
    have hbg := (hb.block g hlt).trans HBK.out
    have hS : wr.drew.cell? ⟨g, 5, none⟩ = some (.int .u64 (l.next : Nat)) ∧ wr.drew.cell? ⟨g, 4, none⟩ = some (.int .u64 (l.tail : Nat)) ∧ wr.drew.cell? ⟨g, 1, none⟩ = some (.int .i64 (l.n : Nat)) := ⟨cell_of (o := 5) hbg rfl, cell_of (o := 4) hbg rfl, cell_of (o := 1) hbg rfl⟩
    have hal63 : (acc.length : Int) ≤ 4096 := by omega
    have hx63 : ((l.next : Nat) : Int) < 4398046511104 := by omega
    have ht63 : ((l.tail : Nat) : Int) ≤ ((l.next : Nat) : Int) := by omega
    have hn63 : ((l.n : Nat) : Int) ≤ 4096 := by omega
    go_upto_region 2 with fail
    have hu1 : IntKind.u64.wrap ((acc.length : Nat) : Int) = ((acc.length : Nat) : Int) := IntWalk.u64_in _ (by omega)
    have hu2 : IntKind.u64.wrap (((l.next : Nat) : Int) + (acc.length : Nat)) = ((l.next : Nat) : Int) + (acc.length : Nat) := IntWalk.u64_in _ (by omega)
    obtain ⟨r0, hr0⟩ : ∃ r0, l.next + acc.length - l.tail = r0 := ⟨_, rfl⟩
    have hu3 : IntKind.u64.wrap (((l.next : Nat) : Int) + (acc.length : Nat) - ((l.tail : Nat) : Int)) = (r0 : Int) := by rw [IntWalk.u64_in _ (by omega)]; omega
    have hu4 : IntKind.u64.wrap ((l.n : Nat) : Int) = ((l.n : Nat) : Int) := IntWalk.u64_in _ (by omega)
    refine wp_region_x (fun w' => w'.cell? ⟨g, 5, none⟩ = some (.int .u64 (l.next : Nat)) ∧ w'.cell? ⟨g, 4, none⟩ = some (.int .u64 (l.tail : Nat)) ∧ w'.cell? ⟨g, 1, none⟩ = some (.int .i64 (l.n : Nat))) [(0, 1), (1, 1), (2, 1), (3, 0), (4, 1), (5, 1), (6, 1), (7, 1), (8, 1), (9, 1), (10, 1), (11, 0), (12, 1), (13, 1), (14, 1), (15, 1), (16, 0), (17, 1), (18, 1)] (by kernel_rfl) (by kernel_rfl) (by intro d v c a w h; cases d <;> exact h) ?_
    iterate 3 (refine x_take rfl (fun K hK => ?_); go_simp; refine hK _ ?_; clear hK K)
    refine x_read rfl hS (fun w' h => exec_load1 ⟨⟨_, Tryz.underlying49, rfl⟩⟩ rfl h.1) ?_
    iterate 7 (refine x_take rfl (fun K hK => ?_); go_simp; refine hK _ ?_; clear hK K)
    refine x_read rfl hS (fun w' h => exec_load1 ⟨⟨_, Tryz.underlying49, rfl⟩⟩ rfl h.2.1) ?_
    iterate 4 (refine x_take rfl (fun K hK => ?_); go_simp; refine hK _ ?_; clear hK K)
    refine x_read rfl hS (fun w' h => exec_load1 ⟨⟨_, Tryz.underlying3, rfl⟩⟩ rfl h.2.2) ?_
    iterate 2 (refine x_take rfl (fun K hK => ?_); go_simp; refine hK _ ?_; clear hK K)
    refine x_nil ?_
    clear hu1 hu2 hu3 hu4
    by_cases hlt2 : acc.length < l.free
    · have hdec : decide (r0 < l.n) = true := by simp; omega
      have hpc := HPC.out wr.drew hb.drew (l.next + acc.length) (by omega)
      have hu1 : IntKind.u64.wrap (((l.next : Nat) : Int) + (acc.length : Nat)) = ((l.next + acc.length : Nat) : Int) := by rw [IntWalk.u64_in _ (by omega)]; omega
      have hc5 := hS.1
      go_step
      go_step
      simp only [hdec]
      clear hdec hS hr0 hbg
      have HBB := Lib.hid hb
      have HO := Lib.hid hO
      have HDT := Lib.hid hDt
      have HREC := Lib.hid hrec
      have HXS := Lib.hid hxs
      have HC3 := Lib.hid hc3
      have HFE := Lib.hid hfe
      clear hb hO hDt hrec hxs hc3 hfe
      have hfuel : l.free - acc.length = l.free - acc.length - 1 + 1 := by omega
      rw [Int.natCast_add] at hpc
      go_wp2_with fail
      refine hpc.mono ?_
      rintro e w3 ⟨hb3, hR⟩
      have HB3 := Lib.hid (HBB.out.drew.trans (hb3.mono HBB.out.size))
      have HB3' := Lib.hid hb3
      have hz3 : wr.heap.size ≤ w3.heap.size := hb3.size
      clear hpc hb3
      cases hcp : pieceB d l.n (l.next + acc.length) with
      | none =>
        rw [hcp] at hR
        obtain ⟨q, a4, n4, c4, rfl⟩ := hR
        obtain ⟨ep, ct, fi, la, da⟩ := q
        have HR : Hid (recGo d l.n l.next floor l.free [] = []) := Lib.hid (by rw [← HREC.out, hfuel]; exact recGo_none hcp)
        simp only [pcCs]
        clear hcp hfuel
        go_wp2_with fail
        go_quiet (fail)
        go_wp2
        go_ret
        exact ⟨below_drewN (HB3.out.alloc HB3.out.size _) _, _, rfl, by rw [HR.out]; exact ⟨[], rfl, LOut.nil (HB3.out.alloc HB3.out.size _).size, fun x hx => by cases hx⟩⟩
      | some q =>
        rw [hcp] at hR
        obtain ⟨v4, rfl, hO4⟩ := hR
        have hO4' : LOut en8 1 5 wr.heap.size w3 v4 q.da := hO4
        obtain ⟨ep, ct, fi, la, da⟩ := q
        obtain ⟨a4, n4, c4, rfl⟩ := hO4.shape
        simp only at hO4'
        have hb5 : Below wr.heap.size wr (w3.alloc (.cells #[.int .u64 (ep : Nat), .int .u64 (ct : Nat), .bool fi, .bool la, .slice a4 n4 c4] 103)) := ((Below.refl wr.heap.size wr).drew.trans HB3'.out).alloc hz3 _
        have hbx : ∀ n, Lies ((w3.alloc (.cells #[.int .u64 (ep : Nat), .int .u64 (ct : Nat), .bool fi, .bool la, .slice a4 n4 c4] 103)).drewN n) w3.heap.size 0 #[.int .u64 (ep : Nat), .int .u64 (ct : Nat), .bool fi, .bool la, .slice a4 n4 c4] := fun n => lies_of heap_alloc_at
        have hO5 : ∀ n, LOut enPc 5 103 w.heap.size ((w3.alloc (.cells #[.int .u64 (ep : Nat), .int .u64 (ct : Nat), .bool fi, .bool la, .slice a4 n4 c4] 103)).drewN n) (.slice ao acc.length cap) xs := fun n => HO.out.below (below_drewN hb5 n)
        have hD5 : ∀ n, DatF w.heap.size ((w3.alloc (.cells #[.int .u64 (ep : Nat), .int .u64 (ct : Nat), .bool fi, .bool la, .slice a4 n4 c4] 103)).drewN n) (.slice ao acc.length cap) xs := fun n => HDT.out.below (below_drewN hb5 n)
        have hX5 : ∀ n, LSl en8 1 ((w3.alloc (.cells #[.int .u64 (ep : Nat), .int .u64 (ct : Nat), .bool fi, .bool la, .slice a4 n4 c4] 103)).drewN n) (sv (a4, n4, c4)) da := fun n => ((hO4'.sl el8.len).below (((Below.refl _ w3).alloc (Nat.le_refl _) _) : Below w3.heap.size w3 (w3.alloc (.cells #[.int .u64 (ep : Nat), .int .u64 (ct : Nat), .bool fi, .bool la, .slice a4 n4 c4] 103)))).below (below_drewN (Below.refl _ _) n)
        have hXL : ∀ r, (sv (a4, n4, c4)).ownBlock = some r → w.heap.size ≤ r ∧ r < (w3.alloc (.cells #[.int .u64 (ep : Nat), .int .u64 (ct : Nat), .bool fi, .bool la, .slice a4 n4 c4] 103)).heap.size ∧ (Value.slice ao acc.length cap).ownBlock ≠ some r := fun r hr => by
          have h1 := hO4'.lo r hr
          have h2 := hO4'.lt hr
          refine ⟨Nat.le_trans HBB.out.size h1, by simp; omega, fun e => ?_⟩
          have := HO.out.lt e
          omega
        have hob : ¬ (fun b => (Value.slice ao acc.length cap).ownBlock = some b) w3.heap.size := fun e => by
          have := HO.out.lt e
          omega
        have HB5 := Lib.hid (HBB.out.trans (hb5.mono HBB.out.size))
        have HOLO := Lib.hid HO.out.lo
        have HBX := Lib.hid hbx
        have HO5 := Lib.hid hO5
        have HDT5 := Lib.hid hD5
        have HX5 := Lib.hid hX5
        have HXL := Lib.hid hXL
        have HOB := Lib.hid hob
        have hxn : xs.length = acc.length := by rw [← HXS.out]; simp
        have hol : xs.length ≤ 1000000000 := by omega
        have HXN := Lib.hid hxn
        have hw5 : ∀ b o u, wr.cell? ⟨b, o, none⟩ = some u → (w3.alloc (.cells #[.int .u64 (ep : Nat), .int .u64 (ct : Nat), .bool fi, .bool la, .slice a4 n4 c4] 103)).cell? ⟨b, o, none⟩ = some u := fun b o u h => (hb5.cell (p := ⟨b, o, none⟩) (World.block_lt_of_cell? _ _ h)).trans h
        have HW5 := Lib.hid hw5
        clear hO4 hO4' hb5 hbx hO5 hD5 hX5 hXL hob hxn hw5
        simp only [pcCs]
        by_cases h0 : acc.length = 0
        · have hacc : acc = [] := List.eq_nil_of_length_eq_zero h0
          have hf0 : ((acc.length : Int) == 0) = true := by simp [h0]
          have hq0 : pieceB d l.n l.next = some ⟨ep, ct, fi, la, da⟩ := by rw [← hcp, h0]; rfl
          have hr0 := recGo_0 (floor := floor) (fuel := l.free - acc.length - 1) hq0
          have hrec : recGo d l.n l.next floor l.free [] = if fi = true ∧ floor ≤ ep then (if la = true then [⟨ep, ct, fi, la, da⟩] else recGo d l.n l.next floor (l.free - acc.length - 1) [⟨ep, ct, fi, la, da⟩]) else [] := by
            have h1 := HREC.out
            rw [hfuel, show recGo d l.n l.next floor (l.free - acc.length - 1 + 1) acc = recGo d l.n l.next floor (l.free - acc.length - 1 + 1) [] from by rw [hacc]] at h1
            rw [← h1]
            exact hr0
          have HRC := Lib.hid hrec
          have HACC := Lib.hid hacc
          have H0 := Lib.hid h0
          clear hcp hfuel hq0 hr0 hrec hacc h0
          cases fi with
          | false =>
            have HR : Hid (recGo d l.n l.next floor l.free [] = []) := Lib.hid (by rw [HRC.out, if_neg (by simp)])
            go_wp2_with fail
            go_quiet (fail)
            go_wp2
            go_ret
            exact ⟨below_drewN HB5.out _, _, rfl, by rw [HR.out]; exact ⟨[], rfl, LOut.nil HB5.out.size, fun x hx => by cases hx⟩⟩
          | true =>
            by_cases hef : floor ≤ ep
            · have hd : decide (ep < floor) = false := by simp; omega
              have HG : Hid (recGo d l.n l.next floor l.free [] = if la = true then acc ++ [⟨ep, ct, true, la, da⟩] else recGo d l.n l.next floor (l.free - acc.length - 1) (acc ++ [⟨ep, ct, true, la, da⟩])) := Lib.hid (by rw [HRC.out, if_pos ⟨rfl, hef⟩, HACC.out]; rfl)
              clear HRC
              go_wp2_with fail
              go_quiet (fail)
              clear hd hf0
              have HBXn := Lib.hid (HBX.out nq)
              have HO5n := Lib.hid (HO5.out nq)
              have HDT5n := Lib.hid (HDT5.out nq)
              have HX5n := Lib.hid (HX5.out nq)
              have HXLn : Hid (∀ r, (sv (a4, n4, c4)).ownBlock = some r → w.heap.size ≤ r ∧ r < ((w3.alloc (.cells #[.int .u64 (ep : Nat), .int .u64 (ct : Nat), .bool true, .bool la, .slice a4 n4 c4] 103)).drewN nq).heap.size ∧ _) := Lib.hid HXL.out
              have HB5n : Hid (Below w.heap.size w ((w3.alloc (.cells #[.int .u64 (ep : Nat), .int .u64 (ct : Nat), .bool true, .bool la, .slice a4 n4 c4] 103)).drewN nq)) := Lib.hid (below_drewN HB5.out nq)
              clear HBX HO5 HDT5 HX5 HXL HB5 HW5
              generalize (w3.alloc (.cells #[.int .u64 (ep : Nat), .int .u64 (ct : Nat), .bool true, .bool la, .slice a4 n4 c4] 103)).drewN nq = W5 at *
              go_upto_region 8 with (first
                | ((with_reducible refine wpList_loadA (aggPc _ _ _ _ _) HBXn.out ?_ ?_); rfl; go_frame)
                | ((with_reducible refine wpList_append1Y elPc HO5n.out (⟨ep, ct, true, la, da⟩, (a4, n4, c4)) hol ?_ ?_ ?_ ?_); rfl; rfl; (first | rfl | (go_simp; done) | (simp; done)); (intro v6 w6 hO6 hm6 hv6; have q3 := cell_mod (HBXn.out 3 (by simp)) hm6 HOB.out; have HO6 := Lib.hid hO6; have HM6 := Lib.hid hm6; have HV6 := Lib.hid hv6; clear hO6 hm6 hv6); go_frame)
                | fail)
              have HB6 := Lib.hid (HB5n.out.trans (HM6.out.below HB5n.out.size fun x hx e => by have := HOLO.out x e; omega))
              have HD6 := Lib.hid (DatF.push (x := (⟨ep, ct, true, la, da⟩, (a4, n4, c4))) HDT5n.out HO5n.out HX5n.out HXLn.out HM6.out HV6.out)
              have hl6 := HO6.out.sl elPc.len
              obtain ⟨a6, n6, c6, rfl⟩ := HO6.out.shape
              have HN6 : Hid (n6 = acc.length + 1) := by
                obtain ⟨a7, c7, he7, -⟩ := hl6
                have : n6 = _ := (Value.slice.inj he7).2.1
                exact Lib.hid (by rw [this, List.length_append, HXN.out]; rfl)
              clear hl6
              cases la with
              | true =>
                go_wp2
                go_ret
                exact ⟨HB6.out, .slice a6 n6 c6, rfl, by rw [show recGo d l.n l.next floor l.free [] = acc ++ [⟨ep, ct, true, true, da⟩] from HG.out.trans (by simp)]; exact ⟨xs ++ [((⟨ep, ct, true, true, da⟩ : Pc), ((a4, n4, c4) : Sv))], by rw [List.map_append, HXS.out]; rfl, HO6.out, HD6.out⟩⟩
              | false =>
                go_wp2
                go_roundw
                case rel => exact ⟨acc ++ [⟨ep, ct, true, false, da⟩], by simp; omega, by rw [List.length_append, List.length_singleton]; exact HN6.out, HB6.out, ⟨xs ++ [((⟨ep, ct, true, false, da⟩ : Pc), ((a4, n4, c4) : Sv))], by rw [List.map_append, HXS.out]; rfl, HO6.out, HD6.out⟩, by rw [List.length_append, List.length_singleton, ← Nat.sub_sub]; exact (HG.out.trans (by simp)).symm⟩
                case measure => have := HN6.out; simp only [slLen]; omega
            · have hd : decide (ep < floor) = true := by simp; omega
              have HR : Hid (recGo d l.n l.next floor l.free [] = []) := Lib.hid (by rw [HRC.out, if_neg (fun e => hef e.2)])
              go_wp2_with fail
              go_quiet (fail)
              go_wp2
              go_ret
              exact ⟨below_drewN HB5.out _, _, rfl, by rw [HR.out]; exact ⟨[], rfl, LOut.nil HB5.out.size, fun x hx => by cases hx⟩⟩
        · obtain ⟨p0, rr, hacc⟩ : ∃ p0 rr, acc = p0 :: rr := by
            cases acc with
            | nil => exact absurd rfl h0
            | cons p0 rr => exact ⟨p0, rr, rfl⟩
          have hf0 : ((acc.length : Int) == 0) = false := beq_eq_false_iff_ne.2 (by omega)
          have hpos : (0 : Int) < (acc.length : Int) := by omega
          have hq0 : pieceB d l.n (l.next + (p0 :: rr).length) = some ⟨ep, ct, fi, la, da⟩ := by rw [← hacc]; exact hcp
          have hr0 := recGo_1 (floor := floor) (fuel := l.free - acc.length - 1) hq0
          have hrec : recGo d l.n l.next floor l.free [] = if fi = false ∧ ep = p0.ep then (if la = true then acc ++ [⟨ep, ct, fi, la, da⟩] else recGo d l.n l.next floor (l.free - acc.length - 1) (acc ++ [⟨ep, ct, fi, la, da⟩])) else [] := by
            have h1 := HREC.out
            rw [hfuel] at h1
            rw [← h1, hacc]
            rw [hacc] at hr0
            exact hr0
          obtain ⟨x0, hx0⟩ : ∃ x, xs[0]? = some x := ⟨_, List.getElem?_eq_getElem (by rw [HXN.out]; omega)⟩
          have hp0 : x0.1 = p0 := by
            have := congrArg (fun l => l[0]?) HXS.out
            simp only [List.getElem?_map, hx0, hacc] at this
            exact Option.some.inj this
          obtain ⟨b0, o0, hao, hb0, hcells⟩ := HC3.out (by omega)
          subst hao
          have hce := hcells 0 x0 hx0 0 (by simp [enPc])
          obtain ⟨⟨pe, pt, pf, pl, pd⟩, sv0⟩ := x0
          have hce' : wr.cell? ⟨b0, o0 + 0 * 5 + 0, none⟩ = some (.int .u64 (pe : Nat)) := hce
          simp only [Nat.zero_mul, Nat.add_zero] at hce'
          have q9 := HW5.out b0 o0 _ hce'
          have hpe : p0.ep = pe := by rw [← hp0]
          rw [hpe] at hrec
          have HRC := Lib.hid hrec
          clear hcp hfuel hq0 hr0 hrec hacc hce hce' hcells hx0 hp0 hpe
          cases fi with
          | true =>
            have HR : Hid (recGo d l.n l.next floor l.free [] = []) := Lib.hid (by rw [HRC.out, if_neg (by simp)])
            go_wp2_with fail
            go_quiet (fail)
            go_wp2
            go_ret
            exact ⟨below_drewN HB5.out _, _, rfl, by rw [HR.out]; exact ⟨[], rfl, LOut.nil HB5.out.size, fun x hx => by cases hx⟩⟩
          | false =>
            by_cases hef : ep = pe
            · subst hef
              have HG : Hid (recGo d l.n l.next floor l.free [] = if la = true then acc ++ [⟨ep, ct, false, la, da⟩] else recGo d l.n l.next floor (l.free - acc.length - 1) (acc ++ [⟨ep, ct, false, la, da⟩])) := Lib.hid (by rw [HRC.out, if_pos ⟨rfl, rfl⟩])
              clear HRC
              go_wp2_with fail
              go_quiet (fail)
              clear hf0
              have HBXn := Lib.hid (HBX.out nq)
              have HO5n := Lib.hid (HO5.out nq)
              have HDT5n := Lib.hid (HDT5.out nq)
              have HX5n := Lib.hid (HX5.out nq)
              have HXLn : Hid (∀ r, (sv (a4, n4, c4)).ownBlock = some r → w.heap.size ≤ r ∧ r < ((w3.alloc (.cells #[.int .u64 (ep : Nat), .int .u64 (ct : Nat), .bool false, .bool la, .slice a4 n4 c4] 103)).drewN nq).heap.size ∧ _) := Lib.hid HXL.out
              have HB5n : Hid (Below w.heap.size w ((w3.alloc (.cells #[.int .u64 (ep : Nat), .int .u64 (ct : Nat), .bool false, .bool la, .slice a4 n4 c4] 103)).drewN nq)) := Lib.hid (below_drewN HB5.out nq)
              clear HBX HO5 HDT5 HX5 HXL HB5 HW5
              generalize (w3.alloc (.cells #[.int .u64 (ep : Nat), .int .u64 (ct : Nat), .bool false, .bool la, .slice a4 n4 c4] 103)).drewN nq = W5 at *
              go_upto_region 8 with (first
                | ((with_reducible refine wpList_loadA (aggPc _ _ _ _ _) HBXn.out ?_ ?_); rfl; go_frame)
                | ((with_reducible refine wpList_append1Y elPc HO5n.out (⟨ep, ct, false, la, da⟩, (a4, n4, c4)) hol ?_ ?_ ?_ ?_); rfl; rfl; (first | rfl | (go_simp; done) | (simp; done)); (intro v6 w6 hO6 hm6 hv6; have q3 := cell_mod (HBXn.out 3 (by simp)) hm6 HOB.out; have HO6 := Lib.hid hO6; have HM6 := Lib.hid hm6; have HV6 := Lib.hid hv6; clear hO6 hm6 hv6); go_frame)
                | fail)
              have HB6 := Lib.hid (HB5n.out.trans (HM6.out.below HB5n.out.size fun x hx e => by have := HOLO.out x e; omega))
              have HD6 := Lib.hid (DatF.push (x := (⟨ep, ct, false, la, da⟩, (a4, n4, c4))) HDT5n.out HO5n.out HX5n.out HXLn.out HM6.out HV6.out)
              have hl6 := HO6.out.sl elPc.len
              obtain ⟨a6, n6, c6, rfl⟩ := HO6.out.shape
              have HN6 : Hid (n6 = acc.length + 1) := by
                obtain ⟨a7, c7, he7, -⟩ := hl6
                have : n6 = _ := (Value.slice.inj he7).2.1
                exact Lib.hid (by rw [this, List.length_append, HXN.out]; rfl)
              clear hl6
              cases la with
              | true =>
                go_wp2
                go_ret
                exact ⟨HB6.out, .slice a6 n6 c6, rfl, by rw [show recGo d l.n l.next floor l.free [] = acc ++ [⟨ep, ct, false, true, da⟩] from HG.out.trans (by simp)]; exact ⟨xs ++ [((⟨ep, ct, false, true, da⟩ : Pc), ((a4, n4, c4) : Sv))], by rw [List.map_append, HXS.out]; rfl, HO6.out, HD6.out⟩⟩
              | false =>
                go_wp2
                go_roundw
                case rel => exact ⟨acc ++ [⟨ep, ct, false, false, da⟩], by simp; omega, by rw [List.length_append, List.length_singleton]; exact HN6.out, HB6.out, ⟨xs ++ [((⟨ep, ct, false, false, da⟩ : Pc), ((a4, n4, c4) : Sv))], by rw [List.map_append, HXS.out]; rfl, HO6.out, HD6.out⟩, by rw [List.length_append, List.length_singleton, ← Nat.sub_sub]; exact (HG.out.trans (by simp)).symm⟩
                case measure => have := HN6.out; simp only [slLen]; omega
            · have hd : ((ep : Int) != (pe : Int)) = true := by rw [bne_iff_ne]; omega
              have HR : Hid (recGo d l.n l.next floor l.free [] = []) := Lib.hid (by rw [HRC.out, if_neg (fun e => hef e.2)])
              go_wp2_with fail
              go_quiet (fail)
              go_wp2
              go_ret
              exact ⟨below_drewN HB5.out _, _, rfl, by rw [HR.out]; exact ⟨[], rfl, LOut.nil HB5.out.size, fun x hx => by cases hx⟩⟩
    · have hdec : decide (r0 < l.n) = false := by simp; omega
      have h0 : l.free - acc.length = 0 := by omega
      rw [h0] at hrec
      have HR : Hid (recGo d l.n l.next floor l.free [] = []) := Lib.hid (by rw [← hrec]; rfl)
      have HB := Lib.hid hb
      clear hrec hb hO hDt hS hbg hc3 hxs h0 hfe hr0
      go_step
      go_step
      simp only [hdec]
      clear hdec
      go_wp2
      go_ret
      exact ⟨HB.out.drew, _, rfl, by rw [HR.out]; exact ⟨[], rfl, LOut.nil HB.out.size, fun x hx => by cases hx⟩⟩
end Go.Proofs.YtmakpbjknklpiaaGreat

/- A transaction is taken, walked. -/
namespace Go.Proofs.YtmakpbjknklpiaaGreat
open Go.RowKit Go.Tn Go.Tn.Bt Go.Tn.Lp Go.Tn.Dk
/-- Puts in a slice, none of their blocks among F. -/
def PtsA (w : World) (F : Nat → Prop) (v : Value) (ps : List Pt) : Prop := ∃ xs : List (Pt × Sv), xs.map (·.1) = ps ∧ LSl enPt 2 w v xs ∧ (∀ r, v.ownBlock = some r → ¬ F r) ∧ ∀ x ∈ xs, LSl en8 1 w (sv x.2) x.1.2 ∧ ∀ r, (sv x.2).ownBlock = some r → ¬ F r
theorem PtsA.rd {w : World} {F : Nat → Prop} {v : Value} {ps : List Pt} (h : PtsA w F v ps) : PtsI w v ps := by
  obtain ⟨xs, h1, h2, _, h3⟩ := h
  exact ⟨xs, h1, h2, fun x hx => (h3 x hx).1⟩
theorem PtsA.mono {w : World} {F G : Nat → Prop} {v : Value} {ps : List Pt} (h : PtsA w F v ps) (hFG : ∀ b, G b → F b) : PtsA w G v ps := by
  obtain ⟨xs, h1, h2, h4, h3⟩ := h
  exact ⟨xs, h1, h2, fun r hr e => h4 r hr (hFG r e), fun x hx => ⟨(h3 x hx).1, fun r hr e => (h3 x hx).2 r hr (hFG r e)⟩⟩
theorem PtsA.below {w w' : World} {F : Nat → Prop} {v : Value} {ps : List Pt} (h : PtsA w F v ps) (hb : Below w.heap.size w w') : PtsA w' F v ps := by
  obtain ⟨xs, h1, h2, h4, h3⟩ := h
  exact ⟨xs, h1, h2.below hb, h4, fun x hx => ⟨(h3 x hx).1.below hb, (h3 x hx).2⟩⟩
theorem PtsA.mod {w w' : World} {F G : Nat → Prop} {v : Value} {ps : List Pt} (h : PtsA w F v ps) (hm : Mod G w w') (hG : ∀ b, G b → F b) : PtsA w' F v ps := by
  obtain ⟨xs, h1, h2, h4, h3⟩ := h
  exact ⟨xs, h1, h2.mod hm (fun r hr e => h4 r hr (hG r e)), h4, fun x hx => ⟨(h3 x hx).1.mod hm fun r hr e => (h3 x hx).2 r hr (hG r e), (h3 x hx).2⟩⟩
theorem takeH_snoc (H : Nat → Option (List Nat)) (ps : List Pt) (p : Pt) : takeH H (ps ++ [p]) = fun k : Nat => if (k : Int) = p.1 then some p.2 else takeH H ps k := by
  unfold takeH
  rw [List.foldl_append]
  rfl
theorem zeroB : ∀ w, (zeroValue 53).run Tryz.prog w = .ok (.slice none 0 0) w := fun w => by simp [go_sem]
set_option maxRecDepth 20000 in
set_option maxHeartbeats 4000000 in
theorem take_any {w : World} {F : Nat → Prop} {g p : Nat} {l : Lg} (h : LAt w F g p l) (v : Value) (ps : List Pt) (hp : PtsA w F v ps) (h0 : ∀ q ∈ ps, 0 ≤ q.1) (hl : ∀ q ∈ ps, q.2.length ≤ 50000) (hn : ps.length ≤ 100000) :
    Calls Tryz.prog 55 #[.pointer (some ⟨g, 0, none⟩), v] w fun e w' => e = .returned (.tuple #[]) ∧ ∃ F', LAt w' F' g p { l with H := takeH l.H ps } ∧ Mod F w w' ∧ ∀ b, F' b → F b ∨ w.heap.size ≤ b := by
  obtain ⟨xs, hxs, hL, hvF, hD⟩ := hp
  have hxl : xs.length = ps.length := by rw [← hxs]; simp
  obtain ⟨ao, cap, rfl, h1, h2, h3⟩ := hL
  rw [hxl] at h1 h3 ⊢
  unfold maxLen at h2
  have HXS := Lib.hid hxs
  have HD := Lib.hid hD
  have HVF := Lib.hid hvF
  have HXL := Lib.hid hxl
  have HL := Lib.hid h
  have HP0 := Lib.hid h0
  have HPL := Lib.hid hl
  clear hxs hD hxl hvF h h0 hl
  have h63 : (ps.length : Int) ≤ 100000 := by omega
  go_enter Tryz.func55, Tryz.ntmps55
  go_wp2_with fail
  go_loopw [8] (fun iv wi => ∃ k : Nat, k ≤ ps.length ∧ iv = .int .i64 k ∧ Mod F w wi ∧ ∃ Fi, LAt wi Fi g p { l with H := takeH l.H (ps.take k) } ∧ ∀ b, Fi b → F b ∨ w.heap.size ≤ b) (fun iv _ => ps.length - (intOf iv).toNat)
  case atStart => exact ⟨0, Nat.zero_le _, rfl, Mod.refl _ _, F, HL.out, fun b hb => .inl hb⟩
  case round =>
    obtain ⟨k, hk, rfl, hm, Fi, hLi, hFi⟩ := hrel
    by_cases hkl : k < ps.length
    · have hkl' : (k : Int) < (ps.length : Int) := by omega
      obtain ⟨x, hx⟩ : ∃ x, xs[k]? = some x := ⟨_, List.getElem?_eq_getElem (by rw [HXL.out]; exact hkl)⟩
      obtain ⟨b, off, rfl, hbl, hcells⟩ := h3 (by omega)
      have hlies := lies_mod (hcells k x hx) hm (HVF.out b rfl)
      have hpx : ps[k]? = some x.1 := by rw [← HXS.out, List.getElem?_map, hx]; rfl
      have hdx := HD.out x (List.mem_of_getElem? hx)
      have hat0 := HP0.out x.1 (List.mem_of_getElem? hpx)
      have hdl := HPL.out x.1 (List.mem_of_getElem? hpx)
      have hsn : takeH l.H (ps.take (k + 1)) = fun j : Nat => if (j : Int) = x.1.1 then some x.1.2 else takeH l.H (ps.take k) j := by rw [take_snoc hpx, takeH_snoc]
      have hds := hdx.1.mod hm hdx.2
      obtain ⟨⟨at_, dat⟩, ⟨a1, n1, c1⟩⟩ := x
      simp only at hat0 hdl hsn hds
      obtain ⟨at_, rfl⟩ := Int.eq_ofNat_of_zero_le hat0
      have HLS : Hid (Lies wr b (off + k * 2) #[.int .i64 (at_ : Nat), .slice a1 n1 c1]) := Lib.hid hlies
      have hb1 : Below wr.heap.size wr (wr.alloc (.cells #[.int .i64 (at_ : Nat), .slice a1 n1 c1] 96)) := (Below.refl _ _).alloc (Nat.le_refl _) _
      have hL1 := (hLi.below hb1).below ((Below.refl _ _).drew)
      have hcl := clone_any (wr.alloc (.cells #[.int .i64 (at_ : Nat), .slice a1 n1 c1] 96)).drew (.slice a1 n1 c1) dat ((LSl.below hds hb1).below (Below.refl _ _).drew) hdl
      obtain ⟨m, L, clk, hlb, hH, hmg, hLg⟩ := hL1.ex
      have hS : (wr.alloc (.cells #[.int .i64 (at_ : Nat), .slice a1 n1 c1] 96)).drew.cell? ⟨g, 6, none⟩ = some (.map (some m)) ∧ Lies (wr.alloc (.cells #[.int .i64 (at_ : Nat), .slice a1 n1 c1] 96)).drew wr.heap.size 0 #[.int .i64 (at_ : Nat), .slice a1 n1 c1] := ⟨cell_of (o := 6) hlb rfl, lies_of heap_alloc_at⟩
      have hm1 : Mod F w (wr.alloc (.cells #[.int .i64 (at_ : Nat), .slice a1 n1 c1] 96)).drew := (hm.alloc _).drew
      have hFlt := hLi.lt
      have hwle : w.heap.size ≤ wr.heap.size := hm.size
      have HSN := Lib.hid hsn
      have HM1 := Lib.hid hm1
      have HL1 := Lib.hid hL1
      have HFI := Lib.hid hFi
      have HFLT := Lib.hid hFlt
      clear hx hcells hlies hpx hdx hds hsn hb1 hm hLi hFi hm1 hat0 hL1 hFlt
      go_upto_region 3 with (first
        | ((with_reducible refine wpList_loadA (aggPt _ _) HLS.out ?_ ?_); rfl; go_frame)
        | fail)
      refine wp_region_x (fun w' => w'.cell? ⟨g, 6, none⟩ = some (.map (some m)) ∧ Lies w' wr.heap.size 0 #[.int .i64 (at_ : Nat), .slice a1 n1 c1]) [(0, 1), (1, 1), (2, 1), (3, 0), (4, 1), (5, 0), (6, 1), (7, 0), (8, 2), (9, 3)] (by kernel_rfl) (by kernel_rfl) (by intro d v c a w h; cases d <;> exact h) ?_
      have hw1z : wr.heap.size < (wr.alloc (.cells #[.int .i64 (at_ : Nat), .slice a1 n1 c1] 96)).drew.heap.size := by show wr.heap.size < (wr.alloc _).heap.size; simp
      generalize (wr.alloc (.cells #[.int .i64 (at_ : Nat), .slice a1 n1 c1] 96)).drew = w1 at *
      iterate 3 (refine x_take rfl (fun K hK => ?_); go_simp; refine hK _ ?_; clear hK K)
      refine x_read rfl hS (fun w' h => exec_load1 ⟨⟨_, Tryz.underlying71, rfl⟩⟩ rfl h.1) ?_
      iterate 1 (refine x_take rfl (fun K hK => ?_); go_simp; refine hK _ ?_; clear hK K)
      refine x_read rfl hS (fun w' h => exec_load1 ⟨⟨_, Tryz.underlying3, rfl⟩⟩ rfl (h.2 0 (by simp))) ?_
      iterate 1 (refine x_take rfl (fun K hK => ?_); go_simp; refine hK _ ?_; clear hK K)
      refine x_read rfl hS (fun w' h => exec_load1 ⟨⟨_, Tryz.underlying53, rfl⟩⟩ rfl (h.2 1 (by simp))) ?_
      refine x_show' rfl (fun K hK => ?_)
      go_simp
      refine hcl.mono ?_
      rintro e w2 ⟨v2, rfl, hO2, hb2⟩
      obtain ⟨a2, n2, c2, rfl⟩ := hO2.shape
      have hgl : g < w1.heap.size := lt_of_block hlb
      have hS2 : w2.cell? ⟨g, 6, none⟩ = some (.map (some m)) ∧ Lies w2 wr.heap.size 0 #[.int .i64 (at_ : Nat), .slice a1 n1 c1] := ⟨(hb2.cell (p := ⟨g, 6, none⟩) hgl).trans hS.1, hS.2.below' hb2 hw1z⟩
      refine hK _ _ hS2 ?_
      clear hK K hcl hS
      have hml : m < w1.heap.size := lt_of_block hH.blk
      obtain ⟨w3, hr3, hh3, hwf3, hm3⟩ := exec_mapUpd (P := Tryz.prog) keyI Tryz.underlying71 ((hb2.block m hml).trans hH.blk) hH.wf ((at_ : Nat) : Int) (.slice a2 n2 c2)
      refine x_skip rfl (hr3 _ _ _ _ _ _ _ _ _ rfl rfl rfl) ?_
      refine x_nil ?_
      have hown : ∀ r, (Value.slice a2 n2 c2).ownBlock = some r → w1.heap.size ≤ r := hO2.lo
      have hfin : LAt w3 (fun b => Fi b ∨ (wr.heap.size ≤ b ∧ b < w3.heap.size)) g p { l with H := takeH l.H (ps.take (k + 1)) } := by
        refine ⟨⟨m, _, _, hm3.heap ((hb2.block g hgl).trans hlb) (fun e => hmg e.symm), ⟨hh3, hwf3, fun e he => ?_, fun j hj => ?_, .inl hH.fm⟩, hmg, fun e he => ?_⟩, .inl HL1.out.fg, ?_⟩
        · rcases mem_upd hH.wf he with ⟨he1, hne⟩ | ⟨he1, he2, -⟩
          · obtain ⟨j, hj1, b', hj2, hj3, hj4⟩ := hH.key e he1
            refine ⟨j, hj1, b', ?_, ?_, fun r hr => ⟨.inl (hj4 r hr).1, (hj4 r hr).2⟩⟩
            · simp only
              rw [HSN.out]
              simp only
              rw [if_neg (fun e' => hne (hj1.trans e'))]
              exact hj2
            · exact (hj3.below hb2).kept hm3.size fun r hr => hm3.block r (Nat.lt_of_lt_of_le (hj3.lt r hr) hb2.size) (hj4 r hr).2
          · refine ⟨at_, he1, dat, ?_, ?_, fun r hr => ?_⟩
            · simp only
              rw [HSN.out]
              simp
            · rw [he2]
              exact ((hO2.rd el8.len).mono (Nat.zero_le _)).kept hm3.size fun r hr => hm3.block r (hO2.lt hr) (fun e => by have := hown r hr; have e : r = m := e; omega)
            · rw [he2] at hr
              have h1 := hown r hr
              have h2 := hO2.lt hr
              have h3 := hm3.size
              exact ⟨.inr ⟨by omega, by omega⟩, by omega⟩
        · have hg := get_upd (j := (j : Int)) (k := ((at_ : Nat) : Int)) (v := .slice a2 n2 c2) hH.wf
          have hne : get (j : Int) (upd ((at_ : Nat) : Int) (.slice a2 n2 c2) L clk) ≠ none := by
            rw [hg]
            by_cases hja : (j : Int) = (at_ : Nat)
            · rw [if_pos hja]
              exact fun e => by cases e
            · rw [if_neg hja]
              simp only [HSN.out, hja, if_false] at hj
              obtain ⟨e, he, hej⟩ := hH.all j hj
              exact fun hn => get_none.1 hn e he hej
          cases hgo : get (j : Int) (upd ((at_ : Nat) : Int) (.slice a2 n2 c2) L clk) with
          | none => exact absurd hgo hne
          | some u =>
            obtain ⟨b', hb'⟩ := get_some hgo
            exact ⟨_, hb', rfl⟩
        · rcases mem_upd hH.wf he with ⟨he1, hne⟩ | ⟨he1, he2, -⟩
          · exact hLg e he1
          · rw [he2]
            intro e
            have := hown g e
            omega
        · rintro b (hb | hb)
          · have := HFLT.out b hb
            have := hb2.size
            have := hm3.size
            omega
          · exact hb.2
      have hmf : Mod F w w3 := HM1.out.trans (T := F) ((Mod.of_below hb2).trans (T := fun b => w1.heap.size ≤ b ∨ b = m) hm3 (fun x h => .inl h) fun x _ h => .inr h) (fun _ h => h) fun x hx hS => by
        rcases hS with hS | hS
        · exact absurd hx (Nat.not_lt.2 (Nat.le_trans HM1.out.size hS))
        · rw [hS] at hx ⊢
          exact (HFI.out m hH.fm).resolve_right (Nat.not_le.2 hx)
      have HFIN := Lib.hid hfin
      have HMF := Lib.hid hmf
      have HW := HM1.out.size
      have hwz : w.heap.size ≤ wr.heap.size + 1 := by omega
      clear hfin hmf hh3 hwf3 hm3 hr3 hO2 hb2 hH hlb hS2 hLg hown HW
      go_wp2
      go_roundw
      case rel => exact ⟨k + 1, by omega, by go_num, HMF.out, _, HFIN.out, fun b hb => by
        rcases hb with hb | hb
        · exact HFI.out b hb
        · exact .inr (Nat.le_trans hwle hb.1)⟩
      case measure => simp [intOf]; omega
    · obtain rfl : k = ps.length := by omega
      rw [List.take_length] at hLi
      have HM := Lib.hid hm
      have HLi := Lib.hid hLi
      have HFi := Lib.hid hFi
      clear hm hLi hFi
      go_wp2
      go_end0
      exact ⟨rfl, Fi, HLi.out, HM.out, HFi.out⟩
end Go.Proofs.YtmakpbjknklpiaaGreat

/- Sync, Read, walked. -/
namespace Go.Tn.Dk
/-- Behind Sync. -/
def Lg.sync (l : Lg) (d : Dsk) : Lg × Dsk := if l.err ≠ 0 then (l, d) else ({ l with err := d.dead }, d.flush)
def Lg.home (l : Lg) (d : Dsk) (i : Nat) : List Nat := match l.H i with
  | some b => b
  | none => d.get (2 + l.n + i)
end Go.Tn.Dk
namespace Go.Proofs.YtmakpbjknklpiaaGreat
open Go.RowKit Go.Tn Go.Tn.Bt Go.Tn.Lp Go.Tn.Dk
theorem sync_any {w : World} {F FD : Nat → Prop} {g p : Nat} {l : Lg} {d : Dsk} (h : LAt w F g p l) (hd : DAt w FD p d) (hF : ∀ b, F b → ¬ FD b) :
    Calls Tryz.prog 13 #[.pointer (some ⟨g, 0, none⟩)] w fun e w' => e = .returned (.int .i64 ((l.sync d).1.err : Nat)) ∧ LAt w' F g p (l.sync d).1 ∧ DAt w' FD p (l.sync d).2 ∧ Mod (fun b => F b ∨ FD b) w w' := by
  have hok := ok_any h
  have HL := Lib.hid h
  have HD := Lib.hid hd
  have HFF := Lib.hid hF
  obtain ⟨m, L, clk, hb, -⟩ := h.ex
  have c7 := cell_of (o := 7) hb rfl
  have c0 := cell_of (o := 0) hb rfl
  unfold Lg.sync
  by_cases he : l.err ≠ 0
  · have hne : (((l.err : Nat) : Int) != 0) = true := by rw [bne_iff_ne]; omega
    rw [if_pos he]
    clear h hd hF hb he
    go_enter Tryz.func13, Tryz.ntmps13
    go_wp2_with (first
      | (go_at_call 47; refine hok.mono ?_; rintro e w2 ⟨rfl, hw⟩; obtain rfl := hw.symm; clear hw)
      | fail)
    go_ret
    exact ⟨rfl, HL.out, HD.out, Mod.refl _ _⟩
  · have hne : (((l.err : Nat) : Int) != 0) = false := by rw [bne_eq_false_iff_eq]; omega
    rw [if_neg he]
    have hfl := dflush_any hd
    have HFL := Lib.hid h.fg
    clear h hd hF hb he
    go_enter Tryz.func13, Tryz.ntmps13
    go_wp2_with (first
      | (go_at_call 47; refine hok.mono ?_; rintro e w2 ⟨rfl, hw⟩; obtain rfl := hw.symm; clear hw)
      | fail)
    refine hfl.mono ?_
    rintro e w2 ⟨rfl, hD2, hm2⟩
    have hst := stays_any (HL.out.mod hm2 HFF.out) d.dead
    have HD2 := Lib.hid hD2
    have HM2 := Lib.hid hm2
    clear hD2 hm2 hfl hok
    go_wp2_with fail
    refine hst.mono ?_
    rintro e w3 ⟨rfl, hL3, hm3⟩
    have HL3 := Lib.hid hL3
    have HM3 := Lib.hid hm3
    clear hL3 hm3 hst
    go_wp2
    go_ret
    refine ⟨rfl, HL3.out, HD2.out.mod HM3.out fun b hb e => ?_, HM2.out.trans (T := fun b => F b ∨ FD b) HM3.out (fun _ h => .inr h) fun x _ h => .inl (by rw [h]; exact HFL.out)⟩
    exact HFF.out g HFL.out (by rw [← e]; exact hb)
set_option maxRecDepth 20000 in
theorem gread_any {w : World} {F FD : Nat → Prop} {g p : Nat} {l : Lg} {d : Dsk} (h : LAt w F g p l) (hd : DAt w FD p d) (hok' : l.ok d) (i : Nat) (hi : i < l.homes d) :
    Calls Tryz.prog 27 #[.pointer (some ⟨g, 0, none⟩), .int .i64 i] w fun e w' => ∃ v, e = .returned (.tuple #[v, .int .i64 0]) ∧ LRd en8 1 w.heap.size w' v (l.home d i) ∧ Below w.heap.size w w' := by
  have hok := ok_any h
  have hho := homes_any h hd hok'.nd
  have hhi := hd.ok.hi
  have hnd := hok'.nd
  have hh : l.homes d = d.L.length - 2 - l.n := rfl
  have hi63 : (i : Int) ≤ 4096 := by omega
  have hd1 : decide ((i : Int) < 0) = false := by simp
  have hd2 : decide (l.homes d ≤ i) = false := by simp; omega
  have HL := Lib.hid h
  have HD := Lib.hid hd
  have HH := Lib.hid hh
  have HOK := Lib.hid hok'
  have hR0 : l.home d i = match l.H i with | some b => b | none => d.get (2 + l.n + i) := rfl
  obtain ⟨R, hR⟩ : ∃ R, l.home d i = R := ⟨_, rfl⟩
  rw [hR] at hR0 ⊢
  have HR0 := Lib.hid hR0
  clear h hd hok' hh hR hR0
  go_enter Tryz.func27, Tryz.ntmps27
  go_upto_region 5 with (first
    | (go_at_call 47; refine hok.mono ?_; rintro e w2 ⟨rfl, hw⟩; obtain rfl := hw.symm; clear hw)
    | (go_at_call 21; refine hho.mono ?_; rintro e w2 ⟨rfl, hb2⟩; have HB2 := Lib.hid hb2; clear hb2)
    | fail)
  have hL2 := HL.out.below HB2.out
  obtain ⟨m, L, clk, hb, hH, hmg, hLg⟩ := hL2.ex
  have c6 := cell_of (o := 6) hb rfl
  have hmap := hH.blk
  cases hHi : l.H i with
  | some b =>
    have HR : Hid (R = b) := Lib.hid (by rw [HR0.out, hHi])
    obtain ⟨e0, he0, he1⟩ := hH.all i (by rw [hHi]; simp)
    obtain ⟨k, hk1, b', hk2, hk3, hk4⟩ := hH.key e0 he0
    have hki : k = i := by omega
    rw [hki, hHi] at hk2
    rw [← Option.some.inj hk2] at hk3
    clear hk1 hk2 hk4 hki
    have hget := get_of_mem hH.wf he0
    rw [he1] at hget
    obtain ⟨ao, cap, hav, hrest⟩ := hk3.sl
    have hsl := hk3.sl
    rw [hav] at hget hsl
    have hgd : getD ((i : Nat) : Int) L (.slice none 0 0) = .slice ao b.length cap := by unfold getD; rw [hget]; rfl
    have hsome : (get ((i : Nat) : Int) L).isSome = true := by rw [hget]; rfl
    have hbl : b.length = 128 := by exact (HOK.out.H i b hHi).2.1
    have hcl := clone_any w2 (.slice ao b.length cap) b hsl (by omega)
    have HMAP := Lib.hid hmap
    clear hbl hrest hsl hav hk3 hH hLg hb hmap hget hHi
    go_wp2_with (first
      | ((with_reducible refine wpList_exec rfl (exec_lookup_ok keyI Tryz.underlying71 zeroB HMAP.out ?_ ((i : Nat) : Int) ?_) ?_); rfl; rfl; go_frame)
      | (go_at_call 68; refine hcl.mono ?_; rintro e w3 ⟨v3, rfl, hO3, hb3⟩; obtain ⟨a3, n3, c3, rfl⟩ := hO3.shape; have HO3 := Lib.hid hO3; have HB3 := Lib.hid hb3; clear hO3 hb3)
      | fail)
    go_ret2
    rw [HR.out]
    exact ⟨.slice a3 n3 c3, rfl, (HO3.out.rd el8.len).mono HB2.out.size, HB2.out.trans (HB3.out.mono HB2.out.size)⟩
  | none =>
    have HR : Hid (R = d.get (2 + l.n + i)) := Lib.hid (by rw [HR0.out, hHi])
    have hget : get ((i : Nat) : Int) L = none := get_none.2 fun e he e1 => by
      obtain ⟨k, hk1, b', hk2, -⟩ := hH.key e he
      have hki : k = i := by omega
      rw [hki, hHi] at hk2
      cases hk2
    have hgd : getD ((i : Nat) : Int) L (.slice none 0 0) = .slice none 0 0 := by unfold getD; rw [hget]; rfl
    have hsome : (get ((i : Nat) : Int) L).isSome = false := by rw [hget]; rfl
    have hrd := dread_any ((HD.out.below HB2.out).drew) (2 + l.n + i) (by have := HH.out; omega)
    have hS : w2.drew.cell? ⟨g, 0, none⟩ = some (.pointer (some ⟨p, 0, none⟩)) ∧ w2.drew.cell? ⟨g, 1, none⟩ = some (.int .i64 (l.n : Nat)) := ⟨cell_of (o := 0) hb rfl, cell_of (o := 1) hb rfl⟩
    have hu1 : IntKind.i64.wrap (2 + ((l.n : Nat) : Int)) = 2 + ((l.n : Nat) : Int) := IntWalk.i64_in _ (by omega)
    have hu2 : IntKind.i64.wrap (2 + ((l.n : Nat) : Int) + (i : Nat)) = ((2 + l.n + i : Nat) : Int) := by rw [IntWalk.i64_in _ (by omega)]; omega
    have HMAP := Lib.hid hmap
    clear hH hLg hmap hget hb
    go_upto_region 8 with (first
      | ((with_reducible refine wpList_exec rfl (exec_lookup_ok keyI Tryz.underlying71 zeroB HMAP.out ?_ ((i : Nat) : Int) ?_) ?_); rfl; rfl; go_frame)
      | fail)
    refine wp_region_x (fun w' => w'.cell? ⟨g, 0, none⟩ = some (.pointer (some ⟨p, 0, none⟩)) ∧ w'.cell? ⟨g, 1, none⟩ = some (.int .i64 (l.n : Nat))) [(0, 1), (1, 1), (2, 1), (3, 0), (4, 1), (5, 1), (6, 1), (7, 0), (8, 1), (9, 1), (10, 1), (11, 2), (12, 1), (13, 1), (14, 1), (15, 1)] (by kernel_rfl) (by kernel_rfl) (by intro d v c a w h; cases d <;> exact h) ?_
    iterate 3 (refine x_take rfl (fun K hK => ?_); go_simp; refine hK _ ?_; clear hK K)
    refine x_read rfl hS (fun w' h => exec_load1 ⟨⟨_, Tryz.underlying24, rfl⟩⟩ rfl h.1) ?_
    iterate 3 (refine x_take rfl (fun K hK => ?_); go_simp; refine hK _ ?_; clear hK K)
    refine x_read rfl hS (fun w' h => exec_load1 ⟨⟨_, Tryz.underlying3, rfl⟩⟩ rfl h.2) ?_
    iterate 3 (refine x_take rfl (fun K hK => ?_); go_simp; refine hK _ ?_; clear hK K)
    refine x_show' rfl (fun K hK => ?_)
    go_simp
    refine hrd.mono ?_
    rintro e w3 ⟨v3, rfl, hv3, hb3⟩
    obtain ⟨a3, c3, rfl, -⟩ := hv3.sl
    have hgl : g < w2.drew.heap.size := World.block_lt_of_cell? _ _ hS.1
    refine hK _ _ ⟨(hb3.cell (p := ⟨g, 0, none⟩) hgl).trans hS.1, (hb3.cell (p := ⟨g, 1, none⟩) hgl).trans hS.2⟩ ?_
    clear hK K hu1 hu2 hS hrd
    iterate 4 (refine x_take rfl (fun K hK => ?_); go_simp; refine hK _ ?_; clear hK K)
    refine x_nil ?_
    have HV3 := Lib.hid hv3
    have HB3 := Lib.hid hb3
    clear hv3 hb3
    go_wp2
    go_ret2
    rw [HR.out]
    exact ⟨.slice a3 (d.get (2 + l.n + i)).length c3, rfl, HV3.out.mono HB2.out.size, HB2.out.trans ((Below.refl _ _).drew.trans (HB3.out.mono HB2.out.size))⟩
end Go.Proofs.YtmakpbjknklpiaaGreat
