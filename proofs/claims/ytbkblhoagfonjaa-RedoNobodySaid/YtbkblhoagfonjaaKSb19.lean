/- replay, walked. -/
import Derived.Test.YtbkblhoagfonjaaKSb18
import Derived.Test.YtbkblhoagfonjaaKSb17
/- The pieces of the next record, walked. -/
namespace Go.Tn.Dk
open Go.Tn.Bt Go.Tn.Lp
/-- The pieces of the record that is next, those at hand given. -/
def recGo (d : Dsk) (n next floor : Nat) : Nat → List Pc → List Pc
  | 0, _ => []
  | fuel + 1, acc => match pieceB d n (next + acc.length) with
    | none => []
    | some q => match acc with
      | [] => if q.fi = true ∧ floor ≤ q.ep then (if q.la = true then [q] else recGo d n next floor fuel [q]) else []
      | p0 :: r => if q.fi = false ∧ q.ep = p0.ep then (if q.la = true then p0 :: r ++ [q] else recGo d n next floor fuel (p0 :: r ++ [q])) else []
/-- What record answers. -/
def Lg.recordB (l : Lg) (d : Dsk) (floor : Nat) : List Pc := recGo d l.n l.next floor l.free []
end Go.Tn.Dk
namespace Go.Proofs.Ytbkblhoagfonjaa
open Go.RowKit Go.Tn Go.Tn.Bt Go.Tn.Lp Go.Tn.Dk
def slLen (v : Value) : Nat := match v with
  | .slice _ n _ => n
  | _ => 0
theorem DatF.push {B : Nat} {W w4 : World} {v v4 : Value} {xs : List (Pc × Sv)} {x : Pc × Sv} (hD : DatF B W v xs) (hO : LOut enPc 5 78 B W v xs) (hx : LSl en8 1 W (sv x.2) x.1.da) (hxl : ∀ r, (sv x.2).ownBlock = some r → B ≤ r ∧ r < W.heap.size ∧ v.ownBlock ≠ some r)
    (hm : Mod (fun b => v.ownBlock = some b) W w4) (hv : v4.ownBlock = v.ownBlock ∨ ∃ r, v4.ownBlock = some r ∧ W.heap.size ≤ r) : DatF B w4 v4 (xs ++ [x]) := by
  intro y hy
  have key : LSl en8 1 W (sv y.2) y.1.da ∧ ∀ r, (sv y.2).ownBlock = some r → B ≤ r ∧ r < W.heap.size ∧ v.ownBlock ≠ some r := by
    rcases List.mem_append.1 hy with hy | hy
    · exact hD y hy
    · rw [List.mem_singleton.1 hy]
      exact ⟨hx, hxl⟩
  refine ⟨key.1.mod hm fun r hr => (key.2 r hr).2.2, fun r hr => ⟨(key.2 r hr).1, Nat.lt_of_lt_of_le (key.2 r hr).2.1 hm.size, ?_⟩⟩
  rcases hv with hv | ⟨r', hv, hr'⟩
  · rw [hv]; exact (key.2 r hr).2.2
  · rw [hv]
    intro e
    cases e
    have := (key.2 _ hr).2.1
    omega
theorem recGo_none {d : Dsk} {n next floor fuel : Nat} {acc : List Pc} (hq : pieceB d n (next + acc.length) = none) : recGo d n next floor (fuel + 1) acc = [] := by
  simp only [recGo, hq]
theorem recGo_0 {d : Dsk} {n next floor fuel : Nat} {q : Pc} (hq : pieceB d n next = some q) : recGo d n next floor (fuel + 1) [] = if q.fi = true ∧ floor ≤ q.ep then (if q.la = true then [q] else recGo d n next floor fuel [q]) else [] := by
  simp only [recGo, List.length_nil, Nat.add_zero, hq]
theorem recGo_1 {d : Dsk} {n next floor fuel : Nat} {p0 q : Pc} {r : List Pc} (hq : pieceB d n (next + (p0 :: r).length) = some q) : recGo d n next floor (fuel + 1) (p0 :: r) = if q.fi = false ∧ q.ep = p0.ep then (if q.la = true then p0 :: r ++ [q] else recGo d n next floor fuel (p0 :: r ++ [q])) else [] := by
  simp only [recGo, hq]
/-- Where the loop stands. -/
def RecAt (w : World) (d : Dsk) (n next floor free : Nat) (ov : Value) (wi : World) : Prop := ∃ acc : List Pc, acc.length ≤ free ∧ slLen ov = acc.length ∧ Below w.heap.size w wi ∧ (∃ xs : List (Pc × Sv), xs.map (·.1) = acc ∧ LOut enPc 5 78 w.heap.size wi ov xs ∧ DatF w.heap.size wi ov xs) ∧ recGo d n next floor (free - acc.length) acc = recGo d n next floor free []
set_option maxRecDepth 20000 in
set_option maxHeartbeats 4000000 in
theorem record_any {w : World} {F FD : Nat → Prop} {g p : Nat} {l : Lg} {d : Dsk} (h : LAt w F g p l) (hd : DAt w FD p d) (hn2 : 2 ≤ l.n) (hn : l.n + 3 ≤ d.L.length) (ht : l.tail ≤ l.next) (hx : l.next < 2 ^ 42) (floor : Nat) (hfl : floor < 2 ^ 63) :
    Calls Try.prog 52 #[.pointer (some ⟨g, 0, none⟩), .int .u64 floor] w fun e w' => Below w.heap.size w w' ∧ ∃ v', e = .returned v' ∧ PcsO w.heap.size w' v' (l.recordB d floor) := by
  have hhi := hd.ok.hi
  have hlt := h.lt g h.fg
  obtain ⟨m, L, clk, hb, -⟩ := h.ex
  have HBK := Lib.hid hb
  have HL := Lib.hid h
  have HD := Lib.hid hd
  have hfe : l.free = l.n - (l.next - l.tail) := rfl
  have hpc := fun wi (hb : Below w.heap.size w wi) c hc => piece_any (h.below hb) (hd.below hb) hn2 hn c hc
  have HPC := Lib.hid hpc
  unfold Lg.recordB
  clear h hd hb hpc
  go_enter Try.func52, Try.ntmps52
  go_wp2_with fail
  go_loopw [5] (fun ov wi => RecAt w d l.n l.next floor l.free ov wi) (fun ov _ => l.free - slLen ov)
  case atStart => exact ⟨[], Nat.zero_le _, rfl, Below.refl _ _, ⟨[], rfl, LOut.nil (Nat.le_refl _), fun x hx => by cases hx⟩, rfl⟩
  case round =>
    obtain ⟨acc, hal, hsl, hb, ⟨xs, hxs, hO, hDt⟩, hrec⟩ := hrel
    have hxl : xs.length = acc.length := by rw [← hxs]; simp
    obtain ⟨ao, cap, rfl, hc1, hc2, hc3⟩ := hO.sl elPc.len
    rw [hxl] at hc1 hc3 hO hDt ⊢
    clear hxl hsl
    unfold maxLen at hc2
    have hbg := (hb.block g hlt).trans HBK.out
    have hS : wr.drew.cell? ⟨g, 5, none⟩ = some (.int .u64 (l.next : Nat)) ∧ wr.drew.cell? ⟨g, 4, none⟩ = some (.int .u64 (l.tail : Nat)) ∧ wr.drew.cell? ⟨g, 1, none⟩ = some (.int .i64 (l.n : Nat)) := ⟨cell_of (o := 5) hbg rfl, cell_of (o := 4) hbg rfl, cell_of (o := 1) hbg rfl⟩
    have hal63 : (acc.length : Int) ≤ 4096 := by omega
    have hx63 : ((l.next : Nat) : Int) < 4398046511104 := by omega
    have ht63 : ((l.tail : Nat) : Int) ≤ ((l.next : Nat) : Int) := by omega
    have hn63 : ((l.n : Nat) : Int) ≤ 4096 := by omega
    go_upto_region 2 with fail
    have hu1 : IntKind.u64.wrap ((acc.length : Nat) : Int) = ((acc.length : Nat) : Int) := IntWalk.u64_in _ (by omega)
    have hu2 : IntKind.u64.wrap (((l.next : Nat) : Int) + (acc.length : Nat)) = ((l.next : Nat) : Int) + (acc.length : Nat) := IntWalk.u64_in _ (by omega)
    obtain ⟨r0, hr0⟩ : ∃ r0, l.next + acc.length - l.tail = r0 := ⟨_, rfl⟩
    have hu3 : IntKind.u64.wrap (((l.next : Nat) : Int) + (acc.length : Nat) - ((l.tail : Nat) : Int)) = (r0 : Int) := by rw [IntWalk.u64_in _ (by omega)]; omega
    have hu4 : IntKind.u64.wrap ((l.n : Nat) : Int) = ((l.n : Nat) : Int) := IntWalk.u64_in _ (by omega)
    refine wp_region_x (fun w' => w'.cell? ⟨g, 5, none⟩ = some (.int .u64 (l.next : Nat)) ∧ w'.cell? ⟨g, 4, none⟩ = some (.int .u64 (l.tail : Nat)) ∧ w'.cell? ⟨g, 1, none⟩ = some (.int .i64 (l.n : Nat))) [(0, 1), (1, 1), (2, 1), (3, 0), (4, 1), (5, 1), (6, 1), (7, 1), (8, 1), (9, 1), (10, 1), (11, 0), (12, 1), (13, 1), (14, 1), (15, 1), (16, 0), (17, 1), (18, 1)] (by kernel_rfl) (by kernel_rfl) (by intro d v c a w h; cases d <;> exact h) ?_
    iterate 3 (refine x_take rfl (fun K hK => ?_); go_simp; refine hK _ ?_; clear hK K)
    refine x_read rfl hS (fun w' h => exec_load1 ⟨⟨_, Try.underlying51, rfl⟩⟩ rfl h.1) ?_
    iterate 7 (refine x_take rfl (fun K hK => ?_); go_simp; refine hK _ ?_; clear hK K)
    refine x_read rfl hS (fun w' h => exec_load1 ⟨⟨_, Try.underlying51, rfl⟩⟩ rfl h.2.1) ?_
    iterate 4 (refine x_take rfl (fun K hK => ?_); go_simp; refine hK _ ?_; clear hK K)
    refine x_read rfl hS (fun w' h => exec_load1 ⟨⟨_, Try.underlying3, rfl⟩⟩ rfl h.2.2) ?_
    iterate 2 (refine x_take rfl (fun K hK => ?_); go_simp; refine hK _ ?_; clear hK K)
    refine x_nil ?_
    clear hu1 hu2 hu3 hu4
    by_cases hlt2 : acc.length < l.free
    · have hdec : decide (r0 < l.n) = true := by simp; omega
      have hpc := HPC.out wr.drew hb.drew (l.next + acc.length) (by omega)
      have hu1 : IntKind.u64.wrap (((l.next : Nat) : Int) + (acc.length : Nat)) = ((l.next + acc.length : Nat) : Int) := by rw [IntWalk.u64_in _ (by omega)]; omega
      have hc5 := hS.1
      go_step
      go_step
      simp only [hdec]
      clear hdec hS hr0 hbg
      have HBB := Lib.hid hb
      have HO := Lib.hid hO
      have HDT := Lib.hid hDt
      have HREC := Lib.hid hrec
      have HXS := Lib.hid hxs
      have HC3 := Lib.hid hc3
      have HFE := Lib.hid hfe
      clear hb hO hDt hrec hxs hc3 hfe
      have hfuel : l.free - acc.length = l.free - acc.length - 1 + 1 := by omega
      rw [Int.natCast_add] at hpc
      go_wp2_with fail
      refine hpc.mono ?_
      rintro e w3 ⟨hb3, hR⟩
      have HB3 := Lib.hid (HBB.out.drew.trans (hb3.mono HBB.out.size))
      have HB3' := Lib.hid hb3
      have hz3 : wr.heap.size ≤ w3.heap.size := hb3.size
      clear hpc hb3
      cases hcp : pieceB d l.n (l.next + acc.length) with
      | none =>
        rw [hcp] at hR
        obtain ⟨q, a4, n4, c4, rfl⟩ := hR
        obtain ⟨ep, ct, fi, la, da⟩ := q
        have HR : Hid (recGo d l.n l.next floor l.free [] = []) := Lib.hid (by rw [← HREC.out, hfuel]; exact recGo_none hcp)
        simp only [pcCs]
        clear hcp hfuel
        go_wp2_with fail
        go_quiet (fail)
        go_wp2
        go_ret
        exact ⟨below_drewN (HB3.out.alloc HB3.out.size _) _, _, rfl, by rw [HR.out]; exact ⟨[], rfl, LOut.nil (HB3.out.alloc HB3.out.size _).size, fun x hx => by cases hx⟩⟩
      | some q =>
        rw [hcp] at hR
        obtain ⟨v4, rfl, hO4⟩ := hR
        have hO4' : LOut en8 1 5 wr.heap.size w3 v4 q.da := hO4
        obtain ⟨ep, ct, fi, la, da⟩ := q
        obtain ⟨a4, n4, c4, rfl⟩ := hO4.shape
        simp only at hO4'
        have hb5 : Below wr.heap.size wr (w3.alloc (.cells #[.int .u64 (ep : Nat), .int .u64 (ct : Nat), .bool fi, .bool la, .slice a4 n4 c4] 78)) := ((Below.refl wr.heap.size wr).drew.trans HB3'.out).alloc hz3 _
        have hbx : ∀ n, Lies ((w3.alloc (.cells #[.int .u64 (ep : Nat), .int .u64 (ct : Nat), .bool fi, .bool la, .slice a4 n4 c4] 78)).drewN n) w3.heap.size 0 #[.int .u64 (ep : Nat), .int .u64 (ct : Nat), .bool fi, .bool la, .slice a4 n4 c4] := fun n => lies_of heap_alloc_at
        have hO5 : ∀ n, LOut enPc 5 78 w.heap.size ((w3.alloc (.cells #[.int .u64 (ep : Nat), .int .u64 (ct : Nat), .bool fi, .bool la, .slice a4 n4 c4] 78)).drewN n) (.slice ao acc.length cap) xs := fun n => HO.out.below (below_drewN hb5 n)
        have hD5 : ∀ n, DatF w.heap.size ((w3.alloc (.cells #[.int .u64 (ep : Nat), .int .u64 (ct : Nat), .bool fi, .bool la, .slice a4 n4 c4] 78)).drewN n) (.slice ao acc.length cap) xs := fun n => HDT.out.below (below_drewN hb5 n)
        have hX5 : ∀ n, LSl en8 1 ((w3.alloc (.cells #[.int .u64 (ep : Nat), .int .u64 (ct : Nat), .bool fi, .bool la, .slice a4 n4 c4] 78)).drewN n) (sv (a4, n4, c4)) da := fun n => ((hO4'.sl el8.len).below (((Below.refl _ w3).alloc (Nat.le_refl _) _) : Below w3.heap.size w3 (w3.alloc (.cells #[.int .u64 (ep : Nat), .int .u64 (ct : Nat), .bool fi, .bool la, .slice a4 n4 c4] 78)))).below (below_drewN (Below.refl _ _) n)
        have hXL : ∀ r, (sv (a4, n4, c4)).ownBlock = some r → w.heap.size ≤ r ∧ r < (w3.alloc (.cells #[.int .u64 (ep : Nat), .int .u64 (ct : Nat), .bool fi, .bool la, .slice a4 n4 c4] 78)).heap.size ∧ (Value.slice ao acc.length cap).ownBlock ≠ some r := fun r hr => by
          have h1 := hO4'.lo r hr
          have h2 := hO4'.lt hr
          refine ⟨Nat.le_trans HBB.out.size h1, by simp; omega, fun e => ?_⟩
          have := HO.out.lt e
          omega
        have hob : ¬ (fun b => (Value.slice ao acc.length cap).ownBlock = some b) w3.heap.size := fun e => by
          have := HO.out.lt e
          omega
        have HB5 := Lib.hid (HBB.out.trans (hb5.mono HBB.out.size))
        have HOLO := Lib.hid HO.out.lo
        have HBX := Lib.hid hbx
        have HO5 := Lib.hid hO5
        have HDT5 := Lib.hid hD5
        have HX5 := Lib.hid hX5
        have HXL := Lib.hid hXL
        have HOB := Lib.hid hob
        have hxn : xs.length = acc.length := by rw [← HXS.out]; simp
        have hol : xs.length ≤ 1000000000 := by omega
        have HXN := Lib.hid hxn
        have hw5 : ∀ b o u, wr.cell? ⟨b, o, none⟩ = some u → (w3.alloc (.cells #[.int .u64 (ep : Nat), .int .u64 (ct : Nat), .bool fi, .bool la, .slice a4 n4 c4] 78)).cell? ⟨b, o, none⟩ = some u := fun b o u h => (hb5.cell (p := ⟨b, o, none⟩) (World.block_lt_of_cell? _ _ h)).trans h
        have HW5 := Lib.hid hw5
        clear hO4 hO4' hb5 hbx hO5 hD5 hX5 hXL hob hxn hw5
        simp only [pcCs]
        by_cases h0 : acc.length = 0
        · have hacc : acc = [] := List.eq_nil_of_length_eq_zero h0
          have hf0 : ((acc.length : Int) == 0) = true := by simp [h0]
          have hq0 : pieceB d l.n l.next = some ⟨ep, ct, fi, la, da⟩ := by rw [← hcp, h0]; rfl
          have hr0 := recGo_0 (floor := floor) (fuel := l.free - acc.length - 1) hq0
          have hrec : recGo d l.n l.next floor l.free [] = if fi = true ∧ floor ≤ ep then (if la = true then [⟨ep, ct, fi, la, da⟩] else recGo d l.n l.next floor (l.free - acc.length - 1) [⟨ep, ct, fi, la, da⟩]) else [] := by
            have h1 := HREC.out
            rw [hfuel, show recGo d l.n l.next floor (l.free - acc.length - 1 + 1) acc = recGo d l.n l.next floor (l.free - acc.length - 1 + 1) [] from by rw [hacc]] at h1
            rw [← h1]
            exact hr0
          have HRC := Lib.hid hrec
          have HACC := Lib.hid hacc
          have H0 := Lib.hid h0
          clear hcp hfuel hq0 hr0 hrec hacc h0
          cases fi with
          | false =>
            have HR : Hid (recGo d l.n l.next floor l.free [] = []) := Lib.hid (by rw [HRC.out, if_neg (by simp)])
            go_wp2_with fail
            go_quiet (fail)
            go_wp2
            go_ret
            exact ⟨below_drewN HB5.out _, _, rfl, by rw [HR.out]; exact ⟨[], rfl, LOut.nil HB5.out.size, fun x hx => by cases hx⟩⟩
          | true =>
            by_cases hef : floor ≤ ep
            · have hd : decide (ep < floor) = false := by simp; omega
              have HG : Hid (recGo d l.n l.next floor l.free [] = if la = true then acc ++ [⟨ep, ct, true, la, da⟩] else recGo d l.n l.next floor (l.free - acc.length - 1) (acc ++ [⟨ep, ct, true, la, da⟩])) := Lib.hid (by rw [HRC.out, if_pos ⟨rfl, hef⟩, HACC.out]; rfl)
              clear HRC
              go_wp2_with fail
              go_quiet (fail)
              clear hd hf0
              have HBXn := Lib.hid (HBX.out nq)
              have HO5n := Lib.hid (HO5.out nq)
              have HDT5n := Lib.hid (HDT5.out nq)
              have HX5n := Lib.hid (HX5.out nq)
              have HXLn : Hid (∀ r, (sv (a4, n4, c4)).ownBlock = some r → w.heap.size ≤ r ∧ r < ((w3.alloc (.cells #[.int .u64 (ep : Nat), .int .u64 (ct : Nat), .bool true, .bool la, .slice a4 n4 c4] 78)).drewN nq).heap.size ∧ _) := Lib.hid HXL.out
              have HB5n : Hid (Below w.heap.size w ((w3.alloc (.cells #[.int .u64 (ep : Nat), .int .u64 (ct : Nat), .bool true, .bool la, .slice a4 n4 c4] 78)).drewN nq)) := Lib.hid (below_drewN HB5.out nq)
              clear HBX HO5 HDT5 HX5 HXL HB5 HW5
              generalize (w3.alloc (.cells #[.int .u64 (ep : Nat), .int .u64 (ct : Nat), .bool true, .bool la, .slice a4 n4 c4] 78)).drewN nq = W5 at *
              go_upto_region 8 with (first
                | ((with_reducible refine wpList_loadA (aggPc _ _ _ _ _) HBXn.out ?_ ?_); rfl; go_frame)
                | ((with_reducible refine wpList_append1Y elPc HO5n.out (⟨ep, ct, true, la, da⟩, (a4, n4, c4)) hol ?_ ?_ ?_ ?_); rfl; rfl; (first | rfl | (go_simp; done) | (simp; done)); (intro v6 w6 hO6 hm6 hv6; have q3 := cell_mod (HBXn.out 3 (by simp)) hm6 HOB.out; have HO6 := Lib.hid hO6; have HM6 := Lib.hid hm6; have HV6 := Lib.hid hv6; clear hO6 hm6 hv6); go_frame)
                | fail)
              have HB6 := Lib.hid (HB5n.out.trans (HM6.out.below HB5n.out.size fun x hx e => by have := HOLO.out x e; omega))
              have HD6 := Lib.hid (DatF.push (x := (⟨ep, ct, true, la, da⟩, (a4, n4, c4))) HDT5n.out HO5n.out HX5n.out HXLn.out HM6.out HV6.out)
              have hl6 := HO6.out.sl elPc.len
              obtain ⟨a6, n6, c6, rfl⟩ := HO6.out.shape
              have HN6 : Hid (n6 = acc.length + 1) := by
                obtain ⟨a7, c7, he7, -⟩ := hl6
                have : n6 = _ := (Value.slice.inj he7).2.1
                exact Lib.hid (by rw [this, List.length_append, HXN.out]; rfl)
              clear hl6
              cases la with
              | true =>
                go_wp2
                go_ret
                exact ⟨HB6.out, .slice a6 n6 c6, rfl, by rw [show recGo d l.n l.next floor l.free [] = acc ++ [⟨ep, ct, true, true, da⟩] from HG.out.trans (by simp)]; exact ⟨xs ++ [((⟨ep, ct, true, true, da⟩ : Pc), ((a4, n4, c4) : Sv))], by rw [List.map_append, HXS.out]; rfl, HO6.out, HD6.out⟩⟩
              | false =>
                go_wp2
                go_roundw
                case rel => exact ⟨acc ++ [⟨ep, ct, true, false, da⟩], by simp; omega, by rw [List.length_append, List.length_singleton]; exact HN6.out, HB6.out, ⟨xs ++ [((⟨ep, ct, true, false, da⟩ : Pc), ((a4, n4, c4) : Sv))], by rw [List.map_append, HXS.out]; rfl, HO6.out, HD6.out⟩, by rw [List.length_append, List.length_singleton, ← Nat.sub_sub]; exact (HG.out.trans (by simp)).symm⟩
                case measure => have := HN6.out; simp only [slLen]; omega
            · have hd : decide (ep < floor) = true := by simp; omega
              have HR : Hid (recGo d l.n l.next floor l.free [] = []) := Lib.hid (by rw [HRC.out, if_neg (fun e => hef e.2)])
              go_wp2_with fail
              go_quiet (fail)
              go_wp2
              go_ret
              exact ⟨below_drewN HB5.out _, _, rfl, by rw [HR.out]; exact ⟨[], rfl, LOut.nil HB5.out.size, fun x hx => by cases hx⟩⟩
        · obtain ⟨p0, rr, hacc⟩ : ∃ p0 rr, acc = p0 :: rr := by
            cases acc with
            | nil => exact absurd rfl h0
            | cons p0 rr => exact ⟨p0, rr, rfl⟩
          have hf0 : ((acc.length : Int) == 0) = false := beq_eq_false_iff_ne.2 (by omega)
          have hpos : (0 : Int) < (acc.length : Int) := by omega
          have hq0 : pieceB d l.n (l.next + (p0 :: rr).length) = some ⟨ep, ct, fi, la, da⟩ := by rw [← hacc]; exact hcp
          have hr0 := recGo_1 (floor := floor) (fuel := l.free - acc.length - 1) hq0
          have hrec : recGo d l.n l.next floor l.free [] = if fi = false ∧ ep = p0.ep then (if la = true then acc ++ [⟨ep, ct, fi, la, da⟩] else recGo d l.n l.next floor (l.free - acc.length - 1) (acc ++ [⟨ep, ct, fi, la, da⟩])) else [] := by
            have h1 := HREC.out
            rw [hfuel] at h1
            rw [← h1, hacc]
            rw [hacc] at hr0
            exact hr0
          obtain ⟨x0, hx0⟩ : ∃ x, xs[0]? = some x := ⟨_, List.getElem?_eq_getElem (by rw [HXN.out]; omega)⟩
          have hp0 : x0.1 = p0 := by
            have := congrArg (fun l => l[0]?) HXS.out
            simp only [List.getElem?_map, hx0, hacc] at this
            exact Option.some.inj this
          obtain ⟨b0, o0, hao, hb0, hcells⟩ := HC3.out (by omega)
          subst hao
          have hce := hcells 0 x0 hx0 0 (by simp [enPc])
          obtain ⟨⟨pe, pt, pf, pl, pd⟩, sv0⟩ := x0
          have hce' : wr.cell? ⟨b0, o0 + 0 * 5 + 0, none⟩ = some (.int .u64 (pe : Nat)) := hce
          simp only [Nat.zero_mul, Nat.add_zero] at hce'
          have q9 := HW5.out b0 o0 _ hce'
          have hpe : p0.ep = pe := by rw [← hp0]
          rw [hpe] at hrec
          have HRC := Lib.hid hrec
          clear hcp hfuel hq0 hr0 hrec hacc hce hce' hcells hx0 hp0 hpe
          cases fi with
          | true =>
            have HR : Hid (recGo d l.n l.next floor l.free [] = []) := Lib.hid (by rw [HRC.out, if_neg (by simp)])
            go_wp2_with fail
            go_quiet (fail)
            go_wp2
            go_ret
            exact ⟨below_drewN HB5.out _, _, rfl, by rw [HR.out]; exact ⟨[], rfl, LOut.nil HB5.out.size, fun x hx => by cases hx⟩⟩
          | false =>
            by_cases hef : ep = pe
            · subst hef
              have HG : Hid (recGo d l.n l.next floor l.free [] = if la = true then acc ++ [⟨ep, ct, false, la, da⟩] else recGo d l.n l.next floor (l.free - acc.length - 1) (acc ++ [⟨ep, ct, false, la, da⟩])) := Lib.hid (by rw [HRC.out, if_pos ⟨rfl, rfl⟩])
              clear HRC
              go_wp2_with fail
              go_quiet (fail)
              clear hf0
              have HBXn := Lib.hid (HBX.out nq)
              have HO5n := Lib.hid (HO5.out nq)
              have HDT5n := Lib.hid (HDT5.out nq)
              have HX5n := Lib.hid (HX5.out nq)
              have HXLn : Hid (∀ r, (sv (a4, n4, c4)).ownBlock = some r → w.heap.size ≤ r ∧ r < ((w3.alloc (.cells #[.int .u64 (ep : Nat), .int .u64 (ct : Nat), .bool false, .bool la, .slice a4 n4 c4] 78)).drewN nq).heap.size ∧ _) := Lib.hid HXL.out
              have HB5n : Hid (Below w.heap.size w ((w3.alloc (.cells #[.int .u64 (ep : Nat), .int .u64 (ct : Nat), .bool false, .bool la, .slice a4 n4 c4] 78)).drewN nq)) := Lib.hid (below_drewN HB5.out nq)
              clear HBX HO5 HDT5 HX5 HXL HB5 HW5
              generalize (w3.alloc (.cells #[.int .u64 (ep : Nat), .int .u64 (ct : Nat), .bool false, .bool la, .slice a4 n4 c4] 78)).drewN nq = W5 at *
              go_upto_region 8 with (first
                | ((with_reducible refine wpList_loadA (aggPc _ _ _ _ _) HBXn.out ?_ ?_); rfl; go_frame)
                | ((with_reducible refine wpList_append1Y elPc HO5n.out (⟨ep, ct, false, la, da⟩, (a4, n4, c4)) hol ?_ ?_ ?_ ?_); rfl; rfl; (first | rfl | (go_simp; done) | (simp; done)); (intro v6 w6 hO6 hm6 hv6; have q3 := cell_mod (HBXn.out 3 (by simp)) hm6 HOB.out; have HO6 := Lib.hid hO6; have HM6 := Lib.hid hm6; have HV6 := Lib.hid hv6; clear hO6 hm6 hv6); go_frame)
                | fail)
              have HB6 := Lib.hid (HB5n.out.trans (HM6.out.below HB5n.out.size fun x hx e => by have := HOLO.out x e; omega))
              have HD6 := Lib.hid (DatF.push (x := (⟨ep, ct, false, la, da⟩, (a4, n4, c4))) HDT5n.out HO5n.out HX5n.out HXLn.out HM6.out HV6.out)
              have hl6 := HO6.out.sl elPc.len
              obtain ⟨a6, n6, c6, rfl⟩ := HO6.out.shape
              have HN6 : Hid (n6 = acc.length + 1) := by
                obtain ⟨a7, c7, he7, -⟩ := hl6
                have : n6 = _ := (Value.slice.inj he7).2.1
                exact Lib.hid (by rw [this, List.length_append, HXN.out]; rfl)
              clear hl6
              cases la with
              | true =>
                go_wp2
                go_ret
                exact ⟨HB6.out, .slice a6 n6 c6, rfl, by rw [show recGo d l.n l.next floor l.free [] = acc ++ [⟨ep, ct, false, true, da⟩] from HG.out.trans (by simp)]; exact ⟨xs ++ [((⟨ep, ct, false, true, da⟩ : Pc), ((a4, n4, c4) : Sv))], by rw [List.map_append, HXS.out]; rfl, HO6.out, HD6.out⟩⟩
              | false =>
                go_wp2
                go_roundw
                case rel => exact ⟨acc ++ [⟨ep, ct, false, false, da⟩], by simp; omega, by rw [List.length_append, List.length_singleton]; exact HN6.out, HB6.out, ⟨xs ++ [((⟨ep, ct, false, false, da⟩ : Pc), ((a4, n4, c4) : Sv))], by rw [List.map_append, HXS.out]; rfl, HO6.out, HD6.out⟩, by rw [List.length_append, List.length_singleton, ← Nat.sub_sub]; exact (HG.out.trans (by simp)).symm⟩
                case measure => have := HN6.out; simp only [slLen]; omega
            · have hd : ((ep : Int) != (pe : Int)) = true := by rw [bne_iff_ne]; omega
              have HR : Hid (recGo d l.n l.next floor l.free [] = []) := Lib.hid (by rw [HRC.out, if_neg (fun e => hef e.2)])
              go_wp2_with fail
              go_quiet (fail)
              go_wp2
              go_ret
              exact ⟨below_drewN HB5.out _, _, rfl, by rw [HR.out]; exact ⟨[], rfl, LOut.nil HB5.out.size, fun x hx => by cases hx⟩⟩
    · have hdec : decide (r0 < l.n) = false := by simp; omega
      have h0 : l.free - acc.length = 0 := by omega
      rw [h0] at hrec
      have HR : Hid (recGo d l.n l.next floor l.free [] = []) := Lib.hid (by rw [← hrec]; rfl)
      have HB := Lib.hid hb
      clear hrec hb hO hDt hS hbg hc3 hxs h0 hfe hr0
      go_step
      go_step
      simp only [hdec]
      clear hdec
      go_wp2
      go_ret
      exact ⟨HB.out.drew, _, rfl, by rw [HR.out]; exact ⟨[], rfl, LOut.nil HB.out.size, fun x hx => by cases hx⟩⟩
end Go.Proofs.Ytbkblhoagfonjaa

/- All that the ring says, in plain words. -/
namespace Go.Tn.Dk
open Go.Tn.Bt Go.Tn.Lp
theorem recGo_len (d : Dsk) (n next floor : Nat) : ∀ (fuel : Nat) (acc : List Pc), (recGo d n next floor fuel acc).length ≤ acc.length + fuel
  | 0, acc => by simp [recGo]
  | fuel + 1, acc => by
    cases hq : pieceB d n (next + acc.length) with
    | none =>
      cases acc <;> simp only [recGo, hq] <;> simp
    | some q =>
      cases acc with
      | nil =>
        simp only [recGo, hq]
        split
        · split
          · simp
          · have := recGo_len d n next floor fuel [q]
            simp at this ⊢
            omega
        · simp
      | cons p0 r =>
        simp only [recGo, hq]
        split
        · split
          · simp
          · have := recGo_len d n next floor fuel (p0 :: r ++ [q])
            simp at this ⊢
            omega
        · simp
theorem recGo_mem (d : Dsk) (n next floor : Nat) (P : Pc → Prop) (hP : ∀ c q, pieceB d n c = some q → P q) : ∀ (fuel : Nat) (acc : List Pc), (∀ q ∈ acc, P q) → ∀ q ∈ recGo d n next floor fuel acc, P q
  | 0, acc, _, q, h => by simp [recGo] at h
  | fuel + 1, acc, ha, q, h => by
    cases hq : pieceB d n (next + acc.length) with
    | none =>
      cases acc <;> simp only [recGo, hq] at h <;> cases h
    | some x =>
      have hx := hP _ _ hq
      cases acc with
      | nil =>
        simp only [recGo, hq] at h
        split at h
        · split at h
          · rw [List.mem_singleton.1 h]; exact hx
          · exact recGo_mem d n next floor P hP fuel [x] (fun y hy => by rw [List.mem_singleton.1 hy]; exact hx) q h
        · cases h
      | cons p0 r =>
        have hn : ∀ y ∈ p0 :: r ++ [x], P y := fun y hy => by
          rcases List.mem_append.1 hy with hy | hy
          · exact ha y hy
          · rw [List.mem_singleton.1 hy]; exact hx
        simp only [recGo, hq] at h
        split at h
        · split at h
          · exact hn q h
          · exact recGo_mem d n next floor P hP fuel _ hn q h
        · cases h
end Go.Tn.Dk
namespace Go.Proofs.Ytbkblhoagfonjaa
open Go.RowKit Go.Tn Go.Tn.Bt Go.Tn.Lp Go.Tn.Dk
theorem pieceB_ok {d : Dsk} (hd : d.ok) {n : Nat} (hn : 0 < n) (hnd : n + 2 ≤ d.L.length) {c : Nat} {q : Pc} (h : pieceB d n c = some q) : q.ok ∧ ∀ x ∈ q.da, x < 256 := by
  unfold pieceB at h
  have hix : 2 + c % n < d.L.length := by have := Nat.mod_lt c hn; omega
  cases hu : unsealB (d.get (2 + c % n)) with
  | none => rw [hu] at h; cases h
  | some x =>
    rw [hu] at h
    simp only at h
    split at h
    · cases h
      exact unsealB_ok (hd.get hix).2 hu
    · cases h
theorem recordB_ok {l : Lg} {d : Dsk} (hd : d.ok) (hn : 0 < l.n) (hnd : l.n + 2 ≤ d.L.length) (floor : Nat) : ∀ q ∈ l.recordB d floor, q.ok ∧ ∀ x ∈ q.da, x < 256 :=
  recGo_mem d l.n l.next floor _ (fun c q h => pieceB_ok hd hn hnd h) l.free [] fun q hq => by cases hq
theorem recordB_len (l : Lg) (d : Dsk) (floor : Nat) : (l.recordB d floor).length ≤ l.free := by
  have := recGo_len d l.n l.next floor l.free []
  simpa [Lg.recordB] using this
theorem recOf_len : ∀ (ps : List Pc), (∀ q ∈ ps, q.ok) → (recOf ps).length ≤ 106 * ps.length
  | [], _ => by simp [recOf]
  | p :: ps, h => by
    have h1 := (h p List.mem_cons_self).2.2
    have h2 := recOf_len ps fun q hq => h q (List.mem_cons_of_mem _ hq)
    simp only [recOf, List.flatMap_cons, List.length_append, List.length_cons] at h2 ⊢
    omega
/-- All that the ring says is done. -/
def replayGo (d : Dsk) : Nat → Lg → Nat → Lg
  | 0, l, _ => l
  | fuel + 1, l, floor => match joinB (l.recordB d floor) with
    | none => l
    | some b => match decB b (l.homes d) with
      | none => l
      | some ps => replayGo d fuel { l with H := takeH l.H ps, next := l.next + (l.recordB d floor).length } (((l.recordB d floor).head?.map (·.ep)).getD 0)
def replayL (l : Lg) (d : Dsk) (floor : Nat) : Lg := replayGo d (l.free + 1) l floor
theorem joinB_ne {ps : List Pc} {b : List Nat} (h : joinB ps = some b) : ps ≠ [] := fun e => by
  rw [e] at h
  cases h
end Go.Proofs.Ytbkblhoagfonjaa

/- replay, walked. -/
namespace Go.Proofs.Ytbkblhoagfonjaa
open Go.RowKit Go.Tn Go.Tn.Bt Go.Tn.Lp Go.Tn.Dk
theorem decB_trans {B : List Nat} {homes : Nat} {ps : List Pt} (h : decB B homes = some ps) : transB ps homes = true := by
  unfold decB at h
  split at h
  · cases h
  · split at h
    · rename_i hc
      cases h
      exact hc.2
    · cases h
theorem PtsO.away {B : Nat} {w : World} {F : Nat → Prop} {v : Value} {ps : List Pt} (h : PtsO B w v ps) (hF : ∀ b, F b → b < B) : PtsA w F v ps := by
  obtain ⟨xs, h1, h2, h3⟩ := h
  exact ⟨xs, h1, h2.sl elPt.len, fun r hr e => absurd (hF r e) (Nat.not_lt.2 (h2.lo r hr)), fun x hx => ⟨(h3 x hx).1, fun r hr e => absurd (hF r e) (Nat.not_lt.2 ((h3 x hx).2 r hr).1)⟩⟩
theorem replay_free {l : Lg} {d : Dsk} {floor : Nat} {H : Nat → Option (List Nat)} (ht : l.tail ≤ l.next) : ({ l with H := H, next := l.next + (l.recordB d floor).length } : Lg).free = l.free - (l.recordB d floor).length := by
  unfold Lg.free
  simp only
  omega
theorem replayGo_fuel (d : Dsk) : ∀ (m : Nat) (l : Lg) (floor f1 f2 : Nat), l.free ≤ m → l.tail ≤ l.next → m + 1 ≤ f1 → m + 1 ≤ f2 → replayGo d f1 l floor = replayGo d f2 l floor
  | m, l, floor, 0, f2, _, _, h1, _ => absurd h1 (by omega)
  | m, l, floor, f1 + 1, 0, _, _, _, h2 => absurd h2 (by omega)
  | m, l, floor, f1 + 1, f2 + 1, hm, ht, h1, h2 => by
    simp only [replayGo]
    cases hj : joinB (l.recordB d floor) with
    | none => rfl
    | some b =>
      simp only
      cases hdc : decB b (l.homes d) with
      | none => rfl
      | some ps =>
        simp only
        have hne := joinB_ne hj
        have hlen := recordB_len l d floor
        have hpos := List.length_pos_iff.2 hne
        have hfr := replay_free (H := takeH l.H ps) (d := d) (floor := floor) ht
        cases m with
        | zero => omega
        | succ m => exact replayGo_fuel d m _ _ f1 f2 (by rw [hfr]; omega) (by simp only; omega) (by omega) (by omega)
theorem replay_step {l : Lg} {d : Dsk} {floor : Nat} {b : List Nat} {ps : List Pt} {q : Pc} {r : List Pc} (ht : l.tail ≤ l.next) (hr : l.recordB d floor = q :: r) (hj : joinB (q :: r) = some b) (hdc : decB b (l.homes d) = some ps) :
    replayGo d (l.free + 1) l floor = replayGo d (({ l with H := takeH l.H ps, next := l.next + (q :: r).length } : Lg).free + 1) { l with H := takeH l.H ps, next := l.next + (q :: r).length } q.ep := by
  have hlen := recordB_len l d floor
  have hfr := replay_free (H := takeH l.H ps) (d := d) (floor := floor) ht
  rw [hr] at hlen hfr
  have h1 : replayGo d (l.free + 1) l floor = replayGo d l.free { l with H := takeH l.H ps, next := l.next + (q :: r).length } q.ep := by
    simp only [replayGo, hr, hj, hdc]
    rfl
  rw [h1]
  refine replayGo_fuel d (({ l with H := takeH l.H ps, next := l.next + (q :: r).length } : Lg).free) _ _ _ _ (Nat.le_refl _) (by simp only; omega) ?_ (Nat.le_refl _)
  rw [hfr]
  have : 0 < (q :: r).length := by simp
  omega
def nextOf (g : Nat) (w : World) : Nat := (intOf ((w.cell? ⟨g, 5, none⟩).getD undef)).toNat
theorem nextOf_at {w : World} {F : Nat → Prop} {g p : Nat} {l : Lg} (h : LAt w F g p l) : nextOf g w = l.next := by
  obtain ⟨m, L, clk, h1, -⟩ := h.ex
  unfold nextOf
  rw [cell_of (o := 5) h1 rfl]
  simp [intOf]
/-- Where replay's loop stands. -/
def RepAt (w : World) (F : Nat → Prop) (g p : Nat) (l : Lg) (d : Dsk) (floor : Nat) (fv : Value) (wi : World) : Prop := ∃ (li : Lg) (fl : Nat) (Fi : Nat → Prop), fv = .int .u64 (fl : Nat) ∧ fl < 2 ^ 63 ∧ li.n = l.n ∧ li.tail = l.tail ∧ l.tail ≤ li.next ∧ li.next ≤ l.tail + l.n ∧ LAt wi Fi g p li ∧ Mod F w wi ∧ (∀ b, Fi b → F b ∨ w.heap.size ≤ b) ∧ replayGo d (li.free + 1) li fl = replayL l d floor
set_option maxRecDepth 20000 in
set_option maxHeartbeats 8000000 in
theorem replay_any {w : World} {F FD : Nat → Prop} {g p : Nat} {l : Lg} {d : Dsk} (h : LAt w F g p l) (hd : DAt w FD p d) (hF : ∀ b, F b → ¬ FD b) (hn2 : 2 ≤ l.n) (hn4 : l.n ≤ 400) (hnd : l.n + 3 ≤ d.L.length) (ht : l.tail ≤ l.next) (hx : l.next ≤ l.tail + l.n) (hs : l.tail < 2 ^ 41) (floor : Nat) (hfl : floor < 2 ^ 63) :
    Calls Try.prog 30 #[.pointer (some ⟨g, 0, none⟩), .int .u64 floor] w fun e w' => e = .returned (.tuple #[]) ∧ ∃ F', LAt w' F' g p (replayL l d floor) ∧ Mod F w w' ∧ ∀ b, F' b → F b ∨ w.heap.size ≤ b := by
  have HL := Lib.hid h
  have HD := Lib.hid hd
  have HFF := Lib.hid hF
  have hR0 : RepAt w F g p l d floor (.int .u64 (floor : Nat)) w := ⟨l, floor, F, rfl, hfl, rfl, rfl, ht, hx, h, Mod.refl _ _, fun b hb => .inl hb, rfl⟩
  clear h hd hF
  go_enter Try.func30, Try.ntmps30
  go_wp2_with fail
  go_loopw [1] (fun fv wi => RepAt w F g p l d floor fv wi) (fun _ wi => l.n + l.tail - nextOf g wi)
  case atStart => exact hR0
  case round =>
    obtain ⟨li, fl, Fi, rfl, hfl', hn, htl, hlo, hhi, hLi, hm, hFi, hrep⟩ := hrel
    have hnx := nextOf_at hLi
    have hDi : DAt wr FD p d := HD.out.mod hm fun b hb e => HFF.out b e hb
    have hrec := record_any hLi hDi (by omega) (by omega) (by omega) (by omega) fl hfl'
    have HLI := Lib.hid hLi
    have HDI := Lib.hid hDi
    have HM := Lib.hid hm
    have HFI := Lib.hid hFi
    have HREP := Lib.hid hrep
    have HNX := Lib.hid hnx
    have HN := Lib.hid hn
    have HTL := Lib.hid htl
    have hln : li.n ≤ 400 := by omega
    have hnn : li.n + 3 ≤ d.L.length := by omega
    have htt : li.tail ≤ li.next := by omega
    have hll : li.next ≤ li.tail + li.n := by omega
    have hts : li.tail < 2 ^ 41 := by omega
    have hok := recordB_ok hDi.ok (l := li) (by omega) (by omega) fl
    have hrl := recordB_len li d fl
    have hfe : li.free ≤ li.n := by unfold Lg.free; omega
    have hro := recOf_len (li.recordB d fl) fun q hq => (hok q hq).1
    clear hLi hDi hm hFi hrep hnx hn htl hR0
    go_wp2_with fail
    refine hrec.mono ?_
    rintro e w2 ⟨hb2, v2, rfl, hP2⟩
    have hjn := join_any w2 v2 (li.recordB d fl) hP2.rd (fun q hq => ⟨Nat.lt_of_le_of_lt (hok q hq).1.1 (by decide), Nat.lt_of_le_of_lt (hok q hq).1.2.1 (by decide), (hok q hq).2⟩) (by omega) (by omega)
    have HP2 := Lib.hid hP2
    have HB2 := Lib.hid hb2
    obtain ⟨a2, n2, c2, rfl⟩ : ∃ a n c, v2 = .slice a n c := by
      obtain ⟨xs, -, hO, -⟩ := hP2
      exact hO.shape
    clear hrec hb2 hP2
    go_wp2_with fail
    refine hjn.mono ?_
    rintro e w3 ⟨hb3, hR⟩
    have HB3 : Hid (Below wr.heap.size wr w3) := Lib.hid (HB2.out.trans (hb3.mono HB2.out.size))
    have HB23 := Lib.hid hb3
    clear hjn hb3
    cases hj : joinB (li.recordB d fl) with
    | none =>
      rw [hj] at hR
      unfold JoinR at hR
      simp only at hR
      subst hR
      have HF : Hid (replayL l d floor = li) := Lib.hid (by rw [← HREP.out]; simp only [replayGo, hj])
      clear hj
      go_wp2
      refine bodyPost_ret (results_none rfl _ _ _) rfl ?_
      rw [HF.out]
      exact ⟨rfl, Fi, HLI.out.below HB3.out, HM.out.trans (Mod.of_below HB3.out) (fun _ h => h) fun x hx h => absurd hx (Nat.not_lt.2 (Nat.le_trans HM.out.size h)), HFI.out⟩
    | some b =>
      rw [hj] at hR
      unfold JoinR at hR
      simp only at hR
      obtain ⟨v3, rfl, hO3⟩ := hR
      obtain ⟨a3, n3, c3, rfl⟩ := hO3.shape
      have hL3 := HLI.out.below HB3.out
      have hD3 := HDI.out.below HB3.out
      have hho := homes_any hL3 hD3 hnn
      have hsl3 := hO3.sl el8.len
      have hbe : b = recOf (li.recordB d fl) := by
          cases hrr : li.recordB d fl with
          | nil => rw [hrr] at hj; cases hj
          | cons q r =>
            rw [hrr] at hj
            simp only [joinB] at hj
            split at hj
            · split at hj
              · exact (Option.some.inj hj).symm
              · cases hj
            · cases hj
      have hblen : b.length ≤ 50000 := by
        rw [hbe]
        omega
      have hbb : ∀ x ∈ b, x < 256 := by
        rw [hbe]
        exact recOf_lt fun q hq => ⟨Nat.lt_of_le_of_lt (hok q hq).1.1 (by decide), Nat.lt_of_le_of_lt (hok q hq).1.2.1 (by decide), (hok q hq).2⟩
      have hepo : ∀ q ∈ li.recordB d fl, q.ep ≤ 16777215 := fun q hq => (hok q hq).1.1
      have HEP := Lib.hid hepo
      have hhl : li.homes d ≤ 4096 := by have := HD.out.ok.hi; unfold Lg.homes; omega
      have hdc := fun w4 (hb4 : Below w3.heap.size w3 w4) => decode_any w4 (.slice a3 n3 c3) b (hsl3.below hb4) hbb hblen (li.homes d) (by omega)
      have HDC := Lib.hid hdc
      have HJ := Lib.hid hj
      clear hO3 hsl3 hj hdc hL3 hD3 hro hok hbe hepo hbb
      go_wp2_with (first
        | (go_at_call 23; refine hho.mono ?_; rintro e w4 ⟨rfl, hb4⟩; have HB4 := Lib.hid hb4; clear hb4 hho)
        | fail)
      refine (HDC.out _ HB4.out).mono ?_
      rintro e w5 ⟨hb5, hR5⟩
      have HB5 : Hid (Below wr.heap.size wr w5) := Lib.hid (HB3.out.trans ((HB4.out.trans (hb5.mono HB4.out.size)).mono HB3.out.size))
      have HB45 : Hid (Below w3.heap.size w3 w5) := Lib.hid (HB4.out.trans (hb5.mono HB4.out.size))
      clear hb5 HDC
      cases hd : decB b (li.homes d) with
      | none =>
        rw [hd] at hR5
        obtain ⟨a5, n5, c5, rfl⟩ := hR5
        have HF : Hid (replayL l d floor = li) := Lib.hid (by rw [← HREP.out]; simp only [replayGo, HJ.out, hd])
        clear hd
        go_wp2
        refine bodyPost_ret (results_none rfl _ _ _) rfl ?_
        rw [HF.out]
        exact ⟨rfl, Fi, HLI.out.below HB5.out, HM.out.trans (Mod.of_below HB5.out) (fun _ h => h) fun x hx h => absurd hx (Nat.not_lt.2 (Nat.le_trans HM.out.size h)), HFI.out⟩
      | some ps =>
        rw [hd] at hR5
        obtain ⟨v5, rfl, hP5⟩ := hR5
        obtain ⟨a5, n5, c5, rfl⟩ : ∃ a n c, v5 = .slice a n c := by
          obtain ⟨xs, -, hO, -⟩ := hP5
          exact hO.shape
        have htr := decB_trans hd
        have htri := (transB_iff ps _).1 htr
        have hw34 : wr.heap.size ≤ w4.heap.size := Nat.le_trans HB3.out.size HB4.out.size
        have hFlt : ∀ b, Fi b → b < wr.heap.size := HLI.out.lt
        have htk := take_any (HLI.out.below HB5.out) (.slice a5 n5 c5) ps (hP5.away fun b hb => Nat.lt_of_lt_of_le (hFlt b hb) hw34) (fun q hq => (htri.2.2.1 q hq).1) (fun q hq => by rw [(htri.2.2.1 q hq).2.2]; decide) (by omega)
        have HTK := Lib.hid htk
        have HD5 := Lib.hid hd
        -- the pieces
        have hne := joinB_ne HJ.out
        obtain ⟨q0, rr, hq0⟩ : ∃ q r, li.recordB d fl = q :: r := by
          cases hrr : li.recordB d fl with
          | nil => exact absurd hrr hne
          | cons q r => exact ⟨q, r, rfl⟩
        obtain ⟨xs2, hxs2, hO2, -⟩ := HP2.out
        have hsl2 := hO2.sl elPc.len
        obtain ⟨x0, hx0⟩ : ∃ x, xs2[0]? = some x := by
          cases xs2 with
          | nil => rw [hq0] at hxs2; cases hxs2
          | cons x _ => exact ⟨x, rfl⟩
        have hx0e : x0.1 = q0 := by
          have := congrArg (fun l => l[0]?) hxs2
          simp only [List.getElem?_map, hx0, hq0] at this
          exact Option.some.inj this
        obtain ⟨a7, c7, he7, hc71, hc72, hc73⟩ := hsl2
        have hn2 : n2 = (li.recordB d fl).length := by
          have h1 : n2 = xs2.length := (Value.slice.inj he7).2.1
          rw [h1, ← hxs2]; simp
        obtain ⟨b2, o2, hb2e, hb2l, hcells⟩ := hc73 (by have := (List.getElem?_eq_some_iff.1 hx0).1; omega)
        have ha2 : a2 = some ⟨b2, o2, none⟩ := by rw [← hb2e]; exact (Value.slice.inj he7).1
        have hb2lo := hO2.lo b2 (by rw [ha2]; rfl)
        have hce := hcells 0 x0 hx0 0 (by simp [enPc])
        obtain ⟨⟨pe, pt, pf, pl, pd⟩, sv0⟩ := x0
        have hce' : w2.cell? ⟨b2, o2 + 0 * 5 + 0, none⟩ = some (.int .u64 (pe : Nat)) := hce
        simp only [Nat.zero_mul, Nat.add_zero] at hce'
        have hw25 : Below w2.heap.size w2 w5 := HB23.out.trans (HB45.out.mono HB23.out.size)
        have hce5 := (hw25.cell (p := ⟨b2, o2, none⟩) hb2l).trans hce'
        have hpe : q0.ep = pe := by rw [← hx0e]
        have hstep := replay_step htt hq0 (by rw [← hq0]; exact HJ.out) HD5.out
        rw [← hq0, hpe] at hstep
        have HST := Lib.hid (hstep.symm.trans HREP.out)
        have HCE5 := Lib.hid hce5
        have hpe63 : pe < 2 ^ 63 := by
          have := HEP.out q0 (by rw [hq0]; simp)
          omega
        have hlenp : 0 < n2 := by rw [hn2, hq0]; simp
        have hn2f : n2 ≤ li.free := by rw [hn2]; exact hrl
        have HN2 := Lib.hid hn2
        subst ha2
        clear htr htri htk hd hne hq0 hxs2 hO2 hx0 hx0e he7 hc71 hc72 hc73 hn2 hb2e hcells hce hce' hw25 hce5 hpe hstep hP5
        go_wp2_with fail
        refine HTK.out.mono ?_
        rintro e w6 ⟨rfl, F6, hL6, hm6, hF6⟩
        have hN := LAt.setNext hL6 (li.next + n2)
        have hmN : Mod (fun b => b = g) w6 (w6.setCell ⟨g, 5, none⟩ (.int .u64 ((li.next + n2 : Nat) : Int))) := (Mod.refl _ _).setCell _ _ fun _ => rfl
        obtain ⟨m6, L6, clk6, hb6, -⟩ := hL6.ex
        have q5 := cell_of (o := 5) hb6 rfl
        have f5 := free_of (o := 5) hb6
        have hgF : Fi g := HLI.out.fg
        have hb2F : ¬ Fi b2 := fun e => by have := hFlt b2 e; omega
        have hc6 : (w6.setCell ⟨g, 5, none⟩ (.int .u64 ((li.next + n2 : Nat) : Int))).cell? ⟨b2, o2, none⟩ = some (.int .u64 (pe : Nat)) := cell_mod (cell_mod HCE5.out hm6 hb2F) hmN (fun e => by have e : b2 = g := e; exact hb2F (e ▸ hgF))
        have hmF : Mod F w (w6.setCell ⟨g, 5, none⟩ (.int .u64 ((li.next + n2 : Nat) : Int))) := by
          have h1 : Mod F w w5 := HM.out.trans (Mod.of_below HB5.out) (fun _ h => h) fun x hx h => absurd hx (Nat.not_lt.2 (Nat.le_trans HM.out.size h))
          have h2 : Mod F w w6 := h1.trans hm6 (fun _ h => h) fun x hx h => (HFI.out x h).resolve_right (by omega)
          exact h2.trans hmN (fun _ h => h) fun x hx h => by
            have h : x = g := h
            rw [h] at hx ⊢
            exact (HFI.out g hgF).resolve_right (by omega)
        have hF6' : ∀ b, F6 b → F b ∨ w.heap.size ≤ b := fun b hb => by
          rcases hF6 b hb with h | h
          · exact HFI.out b h
          · exact .inr (Nat.le_trans HM.out.size (Nat.le_trans HB5.out.size h))
        have HNL : Hid (LAt (w6.setCell ⟨g, 5, none⟩ (.int .u64 ((li.next + n2 : Nat) : Int))) F6 g p { li with H := takeH li.H ps, next := li.next + n2 }) := Lib.hid hN
        have hnxo := nextOf_at hN
        rw [Int.natCast_add] at hc6 hmF hnxo
        have HNX2 := Lib.hid hnxo
        have HMF := Lib.hid hmF
        have HF6 := Lib.hid hF6'
        have hnx63 : ((li.next : Nat) : Int) < 4398046511104 := by omega
        have hn263 : ((n2 : Nat) : Int) ≤ 400 := by omega
        have hn2p : (0 : Int) < ((n2 : Nat) : Int) := by omega
        clear hL6 hm6 hF6 hN hmN hb6 hmF hF6' hnxo
        go_wp2
        go_roundw
        case rel => exact ⟨{ li with H := takeH li.H ps, next := li.next + n2 }, pe, F6, rfl, hpe63, HN.out, HTL.out, by show l.tail ≤ li.next + n2; omega, by have h1 := HN.out; have h2 := HTL.out; have h3 : li.free = li.n - (li.next - li.tail) := rfl; show li.next + n2 ≤ l.tail + l.n; omega, by have := HNL.out; rw [Int.natCast_add] at this; exact this, HMF.out, HF6.out, by have := HST.out; rw [← HN2.out] at this; exact this⟩
        case measure =>
          have h1 : nextOf g (w6.setCell ⟨g, 5, none⟩ (.int .u64 (((li.next : Nat) : Int) + ((n2 : Nat) : Int)))) = li.next + n2 := HNX2.out
          have h2 := HNX.out
          have h3 := HN.out
          have h4 := HTL.out
          have h5 : li.free = li.n - (li.next - li.tail) := rfl
          omega
end Go.Proofs.Ytbkblhoagfonjaa
