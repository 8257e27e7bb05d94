/- The program's log and disk beside the document's: what a call leaves. -/
import Derived.Test.YtmakpbjknklpiaaGreatMgRpl36
import Derived.Test.YtmakpbjknklpiaaGreatMgRpl25
/- The program's log and disk beside the document's: what a call leaves. -/
namespace Go.Proofs.YtmakpbjknklpiaaGreat
open Go.RowKit Go.Tn Go.Tn.Bt Go.Tn.Lp Go.Tn.Dk
/-- What holds behind so many calls. -/
def KI (n i : Nat) (l : Lg) (d : Dsk) : Prop := ∃ S, KInv n i l d S
theorem KI.ok {n i : Nat} {l : Lg} {d : Dsk} (h : KI n i l d) (hi : i ≤ 1000) : l.ok d := by
  obtain ⟨S, h⟩ := h
  exact h.ok hi
theorem KI.rn {n i : Nat} {l : Lg} {d : Dsk} (h : KI n i l d) : l.n = n := by
  obtain ⟨S, h⟩ := h
  exact h.rn
theorem KI.mono {n i j : Nat} {l : Lg} {d : Dsk} (h : KI n i l d) (hij : i ≤ j) : KI n j l d := by
  obtain ⟨S, h⟩ := h
  exact ⟨S, h.mono hij⟩
theorem KI.nx {n i : Nat} {l : Lg} {d : Dsk} (h : KI n i l d) : l.next ≤ 100 * i := by
  obtain ⟨S, h | h⟩ := h
  · exact h.nx
  · exact h.nx
theorem KI.init {n size : Nat} (h1 : 2 ≤ n) (h2 : n + 3 ≤ size) (h3 : size ≤ 4096) : KI n 0 (log0 n 1 0 0) (newD size) := ⟨_, .inl (kinit h1 h2 h3)⟩
theorem KI.write {n i : Nat} {l : Lg} {d : Dsk} (h : KI n i l d) (hi : i ≤ 1000) {ps : List Pt} (hb : ∀ p ∈ ps, ∀ x ∈ p.2, x < 256) (hok : (l.write d ps).2.1.ok) : KI n (i + 1) (l.write d ps).1 (l.write d ps).2.1 := by
  obtain ⟨S, h | h⟩ := h
  · rcases klive_write h hi hb hok with ⟨-, k⟩ | ⟨-, k⟩ | ⟨-, -, k1, k2⟩
    · exact ⟨_, .inl k⟩
    · exact ⟨_, .inr k⟩
    · rw [k1, k2]
      exact ⟨_, .inl (h.mono (Nat.le_succ i))⟩
  · have hwd : l.write d ps = (l, d, 7) := by
      unfold Lg.write
      rw [if_pos (by rw [h.err]; decide), h.err]
    rw [hwd]
    exact ⟨_, .inr (h.mono (Nat.le_succ i))⟩
theorem KI.sync {n i : Nat} {l : Lg} {d : Dsk} (h : KI n i l d) (hok : (l.sync d).2.ok) : KI n (i + 1) (l.sync d).1 (l.sync d).2 := by
  obtain ⟨S, h | h⟩ := h
  · rcases klive_sync h hok with ⟨-, k, -⟩ | ⟨-, k⟩
    · exact ⟨_, .inl (k.mono (Nat.le_succ i))⟩
    · exact ⟨_, .inr (k.mono (Nat.le_succ i))⟩
  · have hs : l.sync d = (l, d) := by
      unfold Lg.sync
      rw [if_pos (by rw [h.err]; decide)]
    rw [hs]
    exact ⟨_, .inr (h.mono (Nat.le_succ i))⟩
theorem KI.check {n i : Nat} {l : Lg} {d : Dsk} (h : KI n i l d) (hi : i ≤ 1000) (hok : (l.check d).2.1.ok) : KI n (i + 1) (l.check d).1 (l.check d).2.1 := by
  obtain ⟨S, h | h⟩ := h
  · rcases klive_check h hi hok with ⟨-, k, -⟩ | ⟨-, k⟩
    · exact ⟨_, .inl k⟩
    · exact ⟨_, .inr k⟩
  · have hwd : l.check d = (l, d, 7) := by
      have he := h.err
      have hs : l.sync d = (l, d) := by
        unfold Lg.sync
        rw [if_pos (by rw [he]; decide)]
      unfold Lg.check
      rw [hs]
      simp only
      rw [if_pos (by rw [he]; decide), he]
    rw [hwd]
    exact ⟨_, .inr (h.mono (Nat.le_succ i))⟩
theorem KI.arm {n i : Nat} {l : Lg} {d : Dsk} (h : KI n i l d) {x : Int} (hx : x < 9223372036854775808) : KI n (i + 1) l (d.arm x) := by
  obtain ⟨S, h⟩ := h
  exact ⟨S, (h.arm hx).mono (Nat.le_succ i)⟩
theorem KI.crash {n i : Nat} {l : Lg} {d : Dsk} (h : KI n i l d) (hd : d.ok) (hn2 : 2 ≤ n) (hnd : n + 3 ≤ d.L.length) (hi : i ≤ 200) (keep : List Int) (torn : Int) :
    ∃ l2, openB (d.crash keep torn) n = some l2 ∧ newestB (d.crash keep torn) (2 + n) < 16777215 ∧ KI n (i + 1) l2 (d.crash keep torn) := by
  obtain ⟨S, h⟩ := h
  obtain ⟨l2, h1, h2, h3, -⟩ := kcrash h.outs hd hn2 hnd hi keep torn
  exact ⟨l2, h1, h2, _, .inl h3⟩
/-- Where both logs and both disks stand: the program's at l1, d1, the document's at l2, d2. -/
structure PMem (w : World) (p q g h N : Nat) (F FD S G GD : Nat → Prop) (l1 : Lg) (d1 : Dsk) (l2 : Lg) (d2 : Dsk) (wi : World) : Prop where
  L : LAt wi F g p l1
  D : DAt wi FD p d1
  ap : ∀ b, F b → ¬ FD b
  X : RDk wi S GD q d2
  Y : RLg wi S G h q l2 N
  apx : ∀ b, G b → ¬ GD b
  sub : ∀ b, F b ∨ FD b → S b
  sep : ∀ b, F b ∨ FD b → ¬ (G b ∨ GD b)
  low : ∀ b, S b → w.heap.size ≤ b
  w : Below w.heap.size w wi
section
variable {w wi w' : World} {p q g h N : Nat} {F FD S G GD : Nat → Prop} {l1 l2 : Lg} {d1 d2 : Dsk}
theorem PMem.below (k : PMem w p q g h N F FD S G GD l1 d1 l2 d2 wi) (hb : Below wi.heap.size wi w') : PMem w p q g h N F FD S G GD l1 d1 l2 d2 w' :=
  ⟨k.L.below hb, k.D.below hb, k.ap, k.X.below hb, k.Y.below hb, k.apx, k.sub, k.sep, k.low, k.w.trans (hb.mono k.w.size)⟩
theorem PMem.lt (k : PMem w p q g h N F FD S G GD l1 d1 l2 d2 wi) : ∀ b, S b → b < wi.heap.size := k.X.lt
theorem PMem.own (k : PMem w p q g h N F FD S G GD l1 d1 l2 d2 wi) : ∀ b, G b ∨ GD b → S b := fun b hb => hb.elim (k.Y.fs b) (k.X.fs b)
/-- The program's log and disk have turned. -/
theorem PMem.prog (k : PMem w p q g h N F FD S G GD l1 d1 l2 d2 wi) {F' FD' : Nat → Prop} {l' : Lg} {d' : Dsk} (hL : LAt w' F' g p l') (hD : DAt w' FD' p d') (hm : Mod (fun b => F b ∨ FD b) wi w') (h1 : ∀ b, F' b → F b ∨ wi.heap.size ≤ b) (h2 : ∀ b, FD' b → FD b ∨ wi.heap.size ≤ b) (h3 : ∀ b, F' b → ¬ FD' b) :
    PMem w p q g h N F' FD' (fun b => S b ∨ F' b ∨ FD' b) G GD l' d' l2 d2 w' := by
  have hnew : ∀ b, F' b ∨ FD' b → (F b ∨ FD b) ∨ wi.heap.size ≤ b := fun b hb => by
    rcases hb with hb | hb
    · exact (h1 b hb).imp .inl id
    · exact (h2 b hb).imp .inr id
  have hS : ∀ b, (S b ∨ F' b ∨ FD' b) → S b ∨ wi.heap.size ≤ b := fun b hb => hb.elim .inl fun hb => (hnew b hb).imp (k.sub b) id
  have hlt : ∀ b, (S b ∨ F' b ∨ FD' b) → b < w'.heap.size := fun b hb => by
    rcases hb with hb | hb | hb
    · exact Nat.lt_of_lt_of_le (k.lt b hb) hm.size
    · exact hL.lt b hb
    · exact hD.lt b hb
  refine ⟨hL, hD, h3, k.X.turn hm k.sub (fun b hb e => k.sep b e (.inr hb)) hS (fun b hb => .inl (k.X.fs b hb)) hlt, k.Y.turn hm k.sub (fun b hb e => k.sep b e (.inl hb)) hS (fun b hb => .inl (k.Y.fs b hb)) hlt, k.apx, fun b hb => .inr hb, fun b hb e => ?_, fun b hb => ?_, k.w.trans (hm.below k.w.size fun x hx hx' => absurd hx (Nat.not_lt.2 (k.low x (k.sub x hx'))))⟩
  · rcases hnew b hb with hb | hb
    · exact k.sep b hb e
    · exact absurd (k.lt b (k.own b e)) (Nat.not_lt.2 hb)
  · rcases hS b hb with hb | hb
    · exact k.low b hb
    · exact Nat.le_trans k.w.size hb
/-- The document's log and disk have turned. -/
theorem PMem.docu (k : PMem w p q g h N F FD S G GD l1 d1 l2 d2 wi) {S' G' GD' : Nat → Prop} {l' : Lg} {d' : Dsk} (hY : RLg w' S' G' h q l' N) (hX : RDk w' S' GD' q d') (t : LT2 wi w' S G GD S' G' GD') :
    PMem w p q g h N F FD S' G' GD' l1 d1 l' d' w' := by
  have hlt : ∀ b, F b ∨ FD b → b < wi.heap.size := fun b hb => k.lt b (k.sub b hb)
  refine ⟨k.L.mod t.mod fun b hb e => k.sep b (.inl hb) e, k.D.mod t.mod fun b hb e => k.sep b (.inr hb) e, k.ap, hX, hY, t.ap, fun b hb => t.sub b (k.sub b hb), fun b hb e => ?_, fun b hb => ?_, k.w.trans (t.mod.below k.w.size fun x hx hx' => absurd hx (Nat.not_lt.2 (k.low x (k.own x hx'))))⟩
  · rcases e with e | e
    · rcases t.ownF b e with e | e
      · exact k.sep b hb (.inl e)
      · exact absurd (hlt b hb) (Nat.not_lt.2 e)
    · rcases t.own b e with e | e
      · exact k.sep b hb (.inr e)
      · exact absurd (hlt b hb) (Nat.not_lt.2 e)
  · rcases t.new b hb with hb | hb
    · exact k.low b hb
    · exact Nat.le_trans k.w.size hb
/-- The program's log opened anew. -/
theorem PMem.reopen (k : PMem w p q g h N F FD S G GD l1 d1 l2 d2 wi) {F' : Nat → Prop} {g' : Nat} {l' : Lg} (hL : LAt w' F' g' p l') (hb : Below wi.heap.size wi w') (hF : ∀ b, F' b → wi.heap.size ≤ b) :
    PMem w p q g' h N F' FD (fun b => S b ∨ F' b) G GD l' d1 l2 d2 w' := by
  have hS : ∀ b, S b ∨ F' b → S b ∨ wi.heap.size ≤ b := fun b hb => hb.imp id (hF b)
  have hlt : ∀ b, S b ∨ F' b → b < w'.heap.size := fun b hb' => by
    rcases hb' with hb' | hb'
    · exact Nat.lt_of_lt_of_le (k.lt b hb') hb.size
    · exact hL.lt b hb'
  have hFD : ∀ b, FD b → S b := fun b hb => k.sub b (.inr hb)
  refine ⟨hL, k.D.below hb, fun b h1 h2 => absurd (k.lt b (hFD b h2)) (Nat.not_lt.2 (hF b h1)), k.X.turn (mod0 hb) (fun _ h => h.elim) (fun _ _ h => h) hS (fun b hb => .inl (k.X.fs b hb)) hlt, k.Y.turn (mod0 hb) (fun _ h => h.elim) (fun _ _ h => h) hS (fun b hb => .inl (k.Y.fs b hb)) hlt, k.apx, fun b hb => ?_, fun b hb e => ?_, fun b hb => ?_, k.w.trans (hb.mono k.w.size)⟩
  · rcases hb with hb | hb
    · exact .inr hb
    · exact .inl (hFD b hb)
  · rcases hb with hb | hb
    · exact absurd (k.lt b (k.own b e)) (Nat.not_lt.2 (hF b hb))
    · exact k.sep b (.inr hb) e
  · rcases hS b hb with hb | hb
    · exact k.low b hb
    · exact Nat.le_trans k.w.size hb
/-- The document's log opened anew. -/
theorem PMem.reopenX (k : PMem w p q g h N F FD S G GD l1 d1 l2 d2 wi) {S' G' : Nat → Prop} {h' : Nat} {l' : Lg} (hY : RLg w' S' G' h' q l' N) (hX : RDk w' S' GD q d2) (hb : Below wi.heap.size wi w') (hS : ∀ b, S b → S' b) (hS' : ∀ b, S' b → S b ∨ wi.heap.size ≤ b) (hG : ∀ b, G' b → wi.heap.size ≤ b) :
    PMem w p q g h' N F FD S' G' GD l1 d1 l' d2 w' := by
  refine ⟨k.L.below hb, k.D.below hb, k.ap, hX, hY, fun b h1 h2 => absurd (k.lt b (k.X.fs b h2)) (Nat.not_lt.2 (hG b h1)), fun b hb => hS b (k.sub b hb), fun b hb e => ?_, fun b hb => ?_, k.w.trans (hb.mono k.w.size)⟩
  · rcases e with e | e
    · exact absurd (k.lt b (k.sub b hb)) (Nat.not_lt.2 (hG b e))
    · exact k.sep b hb (.inr e)
  · rcases hS' b hb with hb | hb
    · exact k.low b hb
    · exact Nat.le_trans k.w.size hb
end
/-- The program's disk alone has turned. -/
theorem PMem.pdisk {w wi w' : World} {p q g h N : Nat} {F FD S G GD : Nat → Prop} {l1 l2 : Lg} {d1 d2 d' : Dsk} (k : PMem w p q g h N F FD S G GD l1 d1 l2 d2 wi) (hD : DAt w' FD p d') (hm : Mod FD wi w') : PMem w p q g h N F FD (fun b => S b ∨ F b ∨ FD b) G GD l1 d' l2 d2 w' :=
  k.prog (k.L.mod hm fun b h1 h2 => k.ap b h1 h2) hD (hm.mono fun _ _ h => .inr h) (fun _ h => .inl h) (fun _ h => .inl h) k.ap
/-- The document's disk alone has turned. -/
theorem PMem.xdisk {w wi w' : World} {p q g h N : Nat} {F FD S G GD : Nat → Prop} {l1 l2 : Lg} {d1 d2 d' : Dsk} (k : PMem w p q g h N F FD S G GD l1 d1 l2 d2 wi) (hX : RDk w' S GD q d') (hm : Mod GD wi w') : PMem w p q g h N F FD S G GD l1 d1 l2 d' w' :=
  k.docu (k.Y.turn hm k.X.fs (fun b h1 h2 => k.apx b h1 h2) (fun _ h => .inl h) k.Y.fs fun b hb => Nat.lt_of_lt_of_le (k.Y.lt b hb) hm.size) hX (LTo.of_mod S k.apx (hm.mono fun _ _ h => .inr h)).two
/-- Both opened for the first time. -/
theorem PMem.start {w w1 w2 w3 : World} {p q g N : Nat} {F FD GD : Nat → Prop} {l : Lg} {d : Dsk} (hD : DAt w1 FD p d) (hb1 : Below w.heap.size w w1) (hFD : ∀ b, FD b → w.heap.size ≤ b) (hX : RDk w2 (fun b => GD b ∨ FD b) GD q d) (hb2 : Below w1.heap.size w1 w2) (hGD : ∀ b, GD b → w1.heap.size ≤ b) (hL : LAt w3 F g p l) (hb3 : Below w2.heap.size w2 w3) (hF : ∀ b, F b → w2.heap.size ≤ b) :
    RDk w3 (fun b => (GD b ∨ FD b) ∨ F b) GD q d ∧ ∀ S' G h w4, RLg w4 S' G h q l N → RDk w4 S' GD q d → Below w3.heap.size w3 w4 → (∀ b, (GD b ∨ FD b) ∨ F b → S' b) → (∀ b, S' b → ((GD b ∨ FD b) ∨ F b) ∨ w3.heap.size ≤ b) → (∀ b, G b → w3.heap.size ≤ b) → PMem w p q g h N F FD S' G GD l d l d w4 := by
  have z1 := hb1.size
  have z2 := hb2.size
  have z3 := hb3.size
  have k1 : ∀ b, FD b → b < w1.heap.size := hD.lt
  have k2 : ∀ b, GD b → b < w2.heap.size := fun b hb => hX.lt b (.inl hb)
  have k3 : ∀ b, F b → b < w3.heap.size := hL.lt
  refine ⟨hX.turn (mod0 hb3) (fun _ h => h.elim) (fun _ _ h => h) (fun b hb => hb.imp id (hF b)) (fun b hb => .inl (.inl hb)) (fun b hb => ?_), fun S' G h w4 hY hX4 hb4 s1 s2 s3 => ⟨hL.below hb4, (hD.below hb2).below hb3 |>.below hb4, fun b h1 h2 => ?_, hX4, hY, fun b h1 h2 => ?_, fun b hb => s1 b ?_, fun b hb e => ?_, fun b hb => ?_, ((hb1.trans (hb2.mono z1)).trans (hb3.mono (by omega))).trans (hb4.mono (by omega))⟩⟩
  · rcases hb with (hb | hb) | hb
    · have := k2 b hb; omega
    · have := k1 b hb; omega
    · exact k3 b hb
  · have := hF b h1
    have := k1 b h2
    omega
  · have := s3 b h1
    have := k2 b h2
    omega
  · rcases hb with hb | hb
    · exact .inr hb
    · exact .inl (.inr hb)
  · rcases hb with hb | hb
    · have a1 := hF b hb
      have a2 := k3 b hb
      rcases e with e | e
      · have := s3 b e; omega
      · have := k2 b e; omega
    · have a1 := k1 b hb
      rcases e with e | e
      · have := s3 b e; omega
      · have := hGD b e; omega
  · rcases s2 b hb with ((hb | hb) | hb) | hb
    · have := hGD b hb; omega
    · exact hFD b hb
    · have := hF b hb; omega
    · omega
end Go.Proofs.YtmakpbjknklpiaaGreat
