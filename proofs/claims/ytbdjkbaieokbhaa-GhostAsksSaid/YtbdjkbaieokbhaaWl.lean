import Derived.Test.YtbdjkbaieokbhaaWk
import Derived.Test.YtbdjkbaieokbhaaWb
namespace Go.Proofs.Ytbdjkbaieokbhaa
open Go.RowKit Go.Tn Go.Tn.Ghost

theorem scalar3 : ScalarT Try.prog 3 := ⟨⟨_, Try.underlying3, rfl⟩⟩

/-- The list as it is cut. -/
theorem cut60 {w : World} {ao : Option Addr} {n cap : Nat} {E : Nat → Evt} (hE : 0 < n → ∃ b off, ao = some ⟨b, off, none⟩ ∧ b < w.heap.size ∧ EvIn w b off n E) :
    ∃ (m : Nat) , m ≤ 60 ∧ m ≤ n ∧ EvSl w (.slice ao m cap) m E ∧ (60 < n → m = 60 ∧ ∃ b off, ao = some ⟨b, off, none⟩) ∧ (n ≤ 60 → m = n) := by
  by_cases h : 60 < n
  · obtain ⟨b, off, ha, hb, hev⟩ := hE (by omega)
    exact ⟨60, by omega, by omega, ⟨_, _, rfl, fun _ => ⟨b, off, ha, hb, fun i hi => hev i (by omega)⟩⟩, fun _ => ⟨rfl, b, off, ha⟩, by omega⟩
  · exact ⟨n, by omega, by omega, ⟨_, _, rfl, hE⟩, by omega, fun _ => rfl⟩

theorem cell_fate {w : World} {bf n : Nat} {F : Nat → Int} (h : w.heap[bf]? = some (.cells ((List.range n).map fun j => zv (F j)).toArray 3 (0, 0))) {k : Nat} (hk : k < n) : w.cell? ⟨bf, k, none⟩ = some (zv (F k)) := by
  refine cell_of h ?_
  simp [hk]

set_option maxHeartbeats 1000000 in
theorem ghostFates_walk (w : World) (ao : Option Addr) (n cap : Nat) (E : Nat → Evt) (hE : 0 < n → ∃ b off, ao = some ⟨b, off, none⟩ ∧ b < w.heap.size ∧ EvIn w b off n E) (hnc : n ≤ cap) (hcm : cap ≤ maxLen) :
    Calls Try.prog 3 #[.slice ao n cap] w fun e w' => e = .returned (.bool true) ∧ Below w.heap.size w w' := by
  unfold maxLen at hcm
  obtain ⟨m, hm, hmn, hsl, h1, h2⟩ := cut60 (cap := cap) hE
  clear hE
  by_cases h : 60 < n
  case' pos =>
    obtain ⟨hm60, b, off, rfl⟩ := h1 h
    have hi : (60 : Int) < (n : Int) := by omega
    have HM := Lib.hid hm60
    clear h1 h2 hm60 h
    go_enter Try.func3, Try.ntmps3
    go_upto_region 3 with (fail)
    rw [show (60 : Nat) = m from HM.out.symm]
    clear HM hi
    generalize (some ⟨b, off, none⟩ : Option Addr) = ao at *
  case' neg =>
    have hi : (n : Int) ≤ 60 := by omega
    obtain rfl := h2 (by omega)
    clear h1 h2 h
    go_enter Try.func3, Try.ntmps3
    go_upto_region 3 with (fail)
    clear hi
  all_goals
    go_wp2_with fail
    refine (fates_any w _ m E hsl hm).mono ?_
    rintro e w1 ⟨bf, rfl, hbf, hf, hb1⟩
    go_wp2
    go_loopw [4] (fun c wr => ∃ k : Nat, k ≤ m ∧ c = .int .i64 k ∧ Below w1.heap.size w1 wr) (fun c _ => m - (intOf c).toNat)
    case atStart => exact ⟨0, Nat.zero_le _, rfl, Below.refl _ _⟩
    case round =>
      obtain ⟨k, hk, rfl, hbr⟩ := hrel
      by_cases hlt : k < m
      · obtain ⟨ao', cap', hv, hev⟩ := hsl
        obtain ⟨b, off, rfl, hbw, hin⟩ := hev (by omega)
        have hc : wr.cell? ⟨bf, k, none⟩ = some (zv (fate E m k)) := by
          rw [hbr.cell (by show bf < w1.heap.size; exact World.block_lt_of_cell? w1 ⟨bf, k, none⟩ (cell_fate hf hlt))]
          exact cell_fate hf hlt
        have hlt' : (k : Int) < (m : Int) := by omega
        have hbw' : b < wr.drew.heap.size := by have := hb1.size; have := hbr.size; show b < wr.heap.size; omega
        have hin' : EvIn wr.drew b off m E := (hin.below hb1 hbw).below (hbr.mono hb1.size |>.drew) (by have := hb1.size; omega)
        go_upto_region 9 with (fail)
        refine wp_region_x (fun w' => w'.cell? ⟨bf, k, none⟩ = some (.int .i64 (fate E m k))) [(0, 1), (1, 1), (2, 1), (3, 0), (4, 1), (5, 1), (6, 2), (7, 1)] (by kernel_rfl) (by kernel_rfl) (by intro d v c a w h; cases d <;> exact h) ?_
        iterate 3 (refine x_take rfl (fun K hK => ?_); go_simp; refine hK _ ?_; clear hK K)
        refine x_read rfl hc (fun w' h => exec_load1 scalar3 rfl h) ?_
        iterate 2 (refine x_take rfl (fun K hK => ?_); go_simp; refine hK _ ?_; clear hK K)
        refine x_show' rfl (fun K hK => ?_)
        go_simp
        refine (fate_any wr.drew b off m cap k E hin' hlt hm hbw').mono ?_
        rintro e w3 ⟨rfl, hb3⟩
        have hbr3 : Below w1.heap.size w1 w3 := hbr.drew.trans (hb3.mono hbr.size)
        refine hK _ _ ?_ ?_
        · show w3.cell? ⟨bf, k, none⟩ = _
          rw [hb3.cell (p := ⟨bf, k, none⟩) (World.block_lt_of_cell? wr ⟨bf, k, none⟩ hc)]
          exact hc
        clear hK K
        refine x_take rfl (fun K hK => ?_); go_simp; refine hK _ ?_; clear hK K
        refine x_nil ?_
        go_wp2
        go_roundw
        case rel => exact ⟨k + 1, by omega, by go_num, hbr3⟩
        case measure => simp [intOf]; omega
      · obtain rfl : k = m := by omega
        go_wp2_with fail
        refine (lives_any wr).mono ?_
        rintro e w2 ⟨rfl, hb2⟩
        go_wp2
        go_ret
        exact ⟨rfl, hb1.trans ((hbr.mono hb1.size).trans (hb2.mono (by have := hb1.size; have := hbr.size; omega)))⟩
end Go.Proofs.Ytbdjkbaieokbhaa
