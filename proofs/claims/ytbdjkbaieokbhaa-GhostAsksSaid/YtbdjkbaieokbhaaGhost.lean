/- The plain law of the ghost: no program. -/
import Derived.Test.YtbdjkbaieokbhaaLib
namespace Go.Tn.Ghost

/-- An event as it lies: all its cells. k its kind, c its client, i, g its call's file, a the call's block, re its result's error. -/
structure Evt where
  k : Int
  c : Int
  ck : Int
  i : Int
  g : Int
  di : Int
  dg : Int
  nm : ByteArray
  ot : ByteArray
  a : Int
  da : ByteArray
  re : Int
  ri : Int
  rg : Int
  rk : Int
  rd : ByteArray
  ea : Option Go.Addr
  el : Nat
  ec : Nat
instance : Inhabited Evt := ⟨⟨0, 0, 0, 0, 0, 0, 0, ⟨#[]⟩, ⟨#[]⟩, 0, ⟨#[]⟩, 0, 0, 0, 0, ⟨#[]⟩, none, 0, 0⟩⟩

/-- An event's cells. -/
def evArr (e : Evt) : Array Go.Value := #[.int .i64 e.k, .int .i64 e.c, .int .i64 e.ck, .int .i64 e.i, .int .i64 e.g, .int .i64 e.di, .int .i64 e.dg, .string e.nm, .string e.ot, .int .i64 e.a, .string e.da, .int .i64 e.re, .int .i64 e.ri, .int .i64 e.rg, .int .i64 e.rk, .string e.rd, .slice e.ea e.el e.ec]
theorem evArr_size (e : Evt) : (evArr e).size = 17 := rfl
@[go_sem] theorem evArr_0 (e : Evt) : (evArr e)[0]? = some (.int .i64 e.k) := rfl
@[go_sem] theorem evArr_1 (e : Evt) : (evArr e)[1]? = some (.int .i64 e.c) := rfl
@[go_sem] theorem evArr_2 (e : Evt) : (evArr e)[2]? = some (.int .i64 e.ck) := rfl
@[go_sem] theorem evArr_3 (e : Evt) : (evArr e)[3]? = some (.int .i64 e.i) := rfl
@[go_sem] theorem evArr_4 (e : Evt) : (evArr e)[4]? = some (.int .i64 e.g) := rfl
@[go_sem] theorem evArr_5 (e : Evt) : (evArr e)[5]? = some (.int .i64 e.di) := rfl
@[go_sem] theorem evArr_6 (e : Evt) : (evArr e)[6]? = some (.int .i64 e.dg) := rfl
@[go_sem] theorem evArr_7 (e : Evt) : (evArr e)[7]? = some (.string e.nm) := rfl
@[go_sem] theorem evArr_8 (e : Evt) : (evArr e)[8]? = some (.string e.ot) := rfl
@[go_sem] theorem evArr_9 (e : Evt) : (evArr e)[9]? = some (.int .i64 e.a) := rfl
@[go_sem] theorem evArr_10 (e : Evt) : (evArr e)[10]? = some (.string e.da) := rfl
@[go_sem] theorem evArr_11 (e : Evt) : (evArr e)[11]? = some (.int .i64 e.re) := rfl
@[go_sem] theorem evArr_12 (e : Evt) : (evArr e)[12]? = some (.int .i64 e.ri) := rfl
@[go_sem] theorem evArr_13 (e : Evt) : (evArr e)[13]? = some (.int .i64 e.rg) := rfl
@[go_sem] theorem evArr_14 (e : Evt) : (evArr e)[14]? = some (.int .i64 e.rk) := rfl
@[go_sem] theorem evArr_15 (e : Evt) : (evArr e)[15]? = some (.string e.rd) := rfl
@[go_sem] theorem evArr_16 (e : Evt) : (evArr e)[16]? = some (.slice e.ea e.el e.ec) := rfl
theorem evArr_one (e : Evt) : (evArr e).all (·.oneCell') = true := by simp [evArr, Go.Value.oneCell']

def here (e e0 : Evt) : Bool := e.c == e0.c && ((e.i == e0.i && e.g == e0.g) && e.a == e0.a)

/-- One event behind a write: what becomes of its fate, and of the count of writes behind it. -/
def fstep (e0 e : Evt) (s : Int × Int) : Int × Int :=
  if s.1 = 2 then s
  else if e.k = 3 then (if here e e0 then (s.1, s.2 + 1) else s)
  else if e.k = 4 then (if here e e0 then (if s.1 = 1 ∨ s.2 = 0 then (2, 0) else (s.1, 0)) else s)
  else if e.k = 5 then (if here e e0 then (3, 0) else s)
  else if e.k = 8 ∨ e.k = 9 then (if e.c = e0.c then (3, 0) else s)
  else s

/-- From event j on, m events. -/
def frun (E : Nat → Evt) (i : Nat) : Nat → Int × Int
  | 0 => (1, 0)
  | m + 1 => fstep (E i) (E (i + 1 + m)) (frun E i m)

/-- The document's fate of event i among n. -/
def fate (E : Nat → Evt) (n i : Nat) : Int := if (E i).k = 3 then (frun E i (n - (i + 1))).1 else 0

theorem fstep_rest (e0 e : Evt) (s : Int × Int) (h : 0 ≤ s.2) : 0 ≤ (fstep e0 e s).2 ∧ (fstep e0 e s).2 ≤ s.2 + 1 := by
  unfold fstep
  repeat' split
  all_goals (try dsimp only)
  all_goals omega

theorem frun_rest (E : Nat → Evt) (i : Nat) : ∀ m, 0 ≤ (frun E i m).2 ∧ (frun E i m).2 ≤ m
  | 0 => by simp [frun]
  | m + 1 => by
    have h := frun_rest E i m
    have := fstep_rest (E i) (E (i + 1 + m)) (frun E i m) h.1
    simp only [frun]
    omega

theorem fstep_two (e0 e : Evt) (s : Int × Int) (h : s.1 = 2) : fstep e0 e s = s := by simp [fstep, h]

theorem frun_two (E : Nat → Evt) (i : Nat) (m : Nat) (h : (frun E i m).1 = 2) : ∀ d, frun E i (m + d) = frun E i m
  | 0 => rfl
  | d + 1 => by
    show fstep (E i) (E (i + 1 + (m + d))) (frun E i (m + d)) = _
    rw [frun_two E i m h d, fstep_two _ _ _ h]

/-! ### The book -/
structure Pl where
  c : Int
  i : Int
  g : Int
  a : Int
deriving DecidableEq

def plOf (e : Evt) : Pl := ⟨e.c, e.i, e.g, e.a⟩

structure St where
  fates : List Int
  op : Pl → List Nat
  li : Pl → List Nat

def setAll (F : List Int) : List Nat → Int → List Int
  | [], _ => F
  | x :: xs, v => setAll (F.set x v) xs v

theorem setAll_length (v : Int) : ∀ (xs : List Nat) (F : List Int), (setAll F xs v).length = F.length
  | [], F => rfl
  | x :: xs, F => by simp [setAll, setAll_length v xs]

theorem setAll_snoc (v : Int) : ∀ (xs : List Nat) (F : List Int) (x : Nat), setAll F (xs ++ [x]) v = (setAll F xs v).set x v
  | [], F, x => rfl
  | y :: xs, F, x => by simp [setAll, setAll_snoc v xs]

theorem setAll_get (v : Int) : ∀ (xs : List Nat) (F : List Int) (i : Nat), i < F.length → (setAll F xs v)[i]? = if i ∈ xs then some v else F[i]?
  | [], F, i, _ => by simp [setAll]
  | x :: xs, F, i, h => by
    simp only [setAll]
    rw [setAll_get v xs _ i (by simpa using h)]
    by_cases h1 : i ∈ xs
    · simp [h1]
    · by_cases h2 : i = x
      · subst h2; simp [h1, h]
      · have : x ≠ i := fun e => h2 e.symm
        simp [h1, h2, List.getElem?_set_ne this]

def updF (f : Pl → List Nat) (p : Pl) (l : List Nat) : Pl → List Nat := fun q => if q = p then l else f q

def lose (p : Pl) (S : St) : St := { fates := setAll S.fates (S.op p) 3, op := updF S.op p [], li := updF S.li p (S.li p ++ S.op p) }
def back (p : Pl) (S : St) : St :=
  if S.op p = [] then { fates := setAll S.fates (S.li p) 2, op := S.op, li := updF S.li p [] }
  else { fates := setAll S.fates (S.op p) 2, op := updF S.op p [], li := S.li }
def write (i : Nat) (p : Pl) (S : St) : St := { fates := S.fates.set i 1, op := updF S.op p (S.op p ++ [i]), li := S.li }

/-- What a crash of client c makes of it: whatever order its places come in. -/
structure Crashed (c : Int) (S S' : St) : Prop where
  len : S'.fates.length = S.fates.length
  hit : ∀ i p, p.c = c → i ∈ S.op p → i < S.fates.length → S'.fates[i]? = some 3
  miss : ∀ i, (∀ p, p.c = c → i ∉ S.op p) → S'.fates[i]? = S.fates[i]?
  op : ∀ p, S'.op p = if p.c = c then [] else S.op p
  li : ∀ p, S'.li p = if p.c = c then S.li p ++ S.op p else S.li p

/-- What an event makes of a book. -/
def Step (k : Nat) (e : Evt) (S S' : St) : Prop :=
  if e.k = 3 then S' = write k (plOf e) S else if e.k = 4 then S' = back (plOf e) S else if e.k = 5 then S' = lose (plOf e) S else if e.k = 8 ∨ e.k = 9 then Crashed e.c S S' else S' = S

def St.zero (n : Nat) : St := ⟨List.replicate n 0, fun _ => [], fun _ => []⟩

/-- What the first k of n events may make of a book. -/
def Reach (E : Nat → Evt) (n : Nat) : Nat → St → Prop
  | 0, S => S = St.zero n
  | k + 1, S => ∃ S1, Reach E n k S1 ∧ Step k (E k) S1 S

theorem step_length {k : Nat} {e : Evt} {S S' : St} (h : Step k e S S') : S'.fates.length = S.fates.length := by
  unfold Step at h
  split at h
  · subst h; simp [write]
  · split at h
    · subst h; unfold back; split <;> simp [setAll_length]
    · split at h
      · subst h; simp [lose, setAll_length]
      · split at h
        · exact h.len
        · subst h; rfl

theorem reach_length {E : Nat → Evt} {n : Nat} : ∀ {k : Nat} {S : St}, Reach E n k S → S.fates.length = n
  | 0, S, h => by simp [Reach] at h; subst h; simp [St.zero]
  | k + 1, S, ⟨S1, h1, h2⟩ => by rw [step_length h2]; exact reach_length h1

theorem step_count {k : Nat} {e : Evt} {S S' : St} (h : Step k e S S') (p : Pl) : (S'.op p).length + (S'.li p).length ≤ (S.op p).length + (S.li p).length + 1 := by
  unfold Step at h
  split at h
  · subst h; simp only [write, updF]; split <;> (try simp_all) <;> omega
  · split at h
    · subst h; unfold back
      split
      · simp only [updF]; split <;> (try simp_all) <;> omega
      · simp only [updF]; split <;> (try simp_all) <;> omega
    · split at h
      · subst h; simp only [lose, updF]; split <;> (try simp_all) <;> omega
      · split at h
        · rw [h.op, h.li]; split <;> (try simp) <;> omega
        · subst h; omega

theorem reach_count {E : Nat → Evt} {n : Nat} : ∀ {k : Nat} {S : St}, Reach E n k S → ∀ p, (S.op p).length + (S.li p).length ≤ k
  | 0, S, h, p => by simp [Reach] at h; subst h; simp [St.zero]
  | k + 1, S, ⟨S1, h1, h2⟩, p => by have := step_count h2 p; have := reach_count h1 p; omega

theorem here_iff {e e0 : Evt} : here e e0 = true ↔ plOf e = plOf e0 := by
  simp [here, plOf, and_assoc]

/-- Where event j of kind 3 stands after k events. -/
structure At (E : Nat → Evt) (j k : Nat) (S : St) : Prop where
  fate : S.fates[j]? = some (frun E j (k - (j + 1))).1
  three : (frun E j (k - (j + 1))).1 = 1 ∨ (frun E j (k - (j + 1))).1 = 2 ∨ (frun E j (k - (j + 1))).1 = 3
  op : j ∈ S.op (plOf (E j)) ↔ (frun E j (k - (j + 1))).1 = 1
  li : j ∈ S.li (plOf (E j)) ↔ (frun E j (k - (j + 1))).1 = 3
  rest : (frun E j (k - (j + 1))).1 = 3 → (frun E j (k - (j + 1))).2 = (S.op (plOf (E j))).length

structure Inv (E : Nat → Evt) (n k : Nat) (S : St) : Prop where
  len : S.fates.length = n
  at_ : ∀ j, j < k → j < n → (E j).k = 3 → At E j k S
  other : ∀ j, j < n → (k ≤ j ∨ (E j).k ≠ 3) → S.fates[j]? = some 0
  opIn : ∀ p, ∀ j ∈ S.op p, j < k ∧ (E j).k = 3 ∧ plOf (E j) = p
  liIn : ∀ p, ∀ j ∈ S.li p, j < k ∧ (E j).k = 3 ∧ plOf (E j) = p

theorem inv_start (E : Nat → Evt) (n : Nat) : Inv E n 0 (St.zero n) :=
  ⟨by simp [St.zero], fun j h => by omega, fun j h _ => by simp [St.zero, h], fun p j hj => by simp [St.zero] at hj, fun p j hj => by simp [St.zero] at hj⟩

theorem frun_next {E : Nat → Evt} {j k : Nat} (h : j < k) : frun E j (k + 1 - (j + 1)) = fstep (E j) (E k) (frun E j (k - (j + 1))) := by
  rw [show k + 1 - (j + 1) = (k - (j + 1)) + 1 by omega]
  show fstep (E j) (E (j + 1 + (k - (j + 1)))) _ = _
  rw [show j + 1 + (k - (j + 1)) = k by omega]

/-- The same by what fates, open and limbo hold, the count's step as a variable. -/
theorem At.mk' {E : Nat → Evt} {j k : Nat} {S : St} {f r : Int} (hlt : j < k) (hs : fstep (E j) (E k) (frun E j (k - (j + 1))) = (f, r)) (hf : S.fates[j]? = some f) (h3 : f = 1 ∨ f = 2 ∨ f = 3) (ho : j ∈ S.op (plOf (E j)) ↔ f = 1) (hl : j ∈ S.li (plOf (E j)) ↔ f = 3)
    (hr : f = 3 → r = (S.op (plOf (E j))).length) : At E j (k + 1) S := by
  have e := (frun_next (E := E) hlt).trans hs
  constructor <;> rw [e] <;> assumption

theorem inv_step {E : Nat → Evt} {n k : Nat} {S S' : St} (h : Inv E n k S) (hk : k < n) (hs : Step k (E k) S S') : Inv E n (k + 1) S' := by
  have hlen := step_length hs
  unfold Step at hs
  split at hs
  · rename_i h3
    subst hs
    refine ⟨by rw [hlen]; exact h.len, fun j hj hjn hj3 => ?_, fun j hj hc => ?_, fun p j hj => ?_, fun p j hj => ?_⟩
    · by_cases hjk : j = k
      · subst hjk
        have e0 : frun E j (j + 1 - (j + 1)) = (1, 0) := by rw [Nat.sub_self]; rfl
        refine ⟨?_, ?_, ?_, ?_, ?_⟩ <;> rw [e0]
        · simp [write, h.len, hjn]
        · simp
        · simp [write, updF]
        · simp only [write]
          constructor
          · intro hx; exact absurd (h.liIn _ _ hx).1 (by omega)
          · intro hx; simp at hx
        · simp
      · have hlt : j < k := by omega
        have A := h.at_ j hlt hjn hj3
        generalize hfr : frun E j (k - (j + 1)) = s at A
        obtain ⟨f, r⟩ := s
        obtain ⟨a1, a2, a3, a4, a5⟩ := A
        rw [hfr] at a1 a2 a3 a4 a5
        dsimp only at a1 a2 a3 a4 a5
        by_cases hh : here (E k) (E j) = true
        · have hp := here_iff.1 hh
          by_cases h2 : f = 2
          · refine At.mk' (f := f) (r := r) hlt (by rw [hfr, fstep_two _ _ _ h2]) ?_ a2 ?_ a4 ?_
            · simp [write, List.getElem?_set_ne (show k ≠ j by omega), a1]
            · simp only [write, updF, hp, if_true, List.mem_append, List.mem_singleton, hjk, or_false]; exact a3
            · intro h; omega
          · refine At.mk' (f := f) (r := r + 1) hlt (by rw [hfr]; simp [fstep, h2, h3, hh]) ?_ a2 ?_ a4 ?_
            · simp [write, List.getElem?_set_ne (show k ≠ j by omega), a1]
            · simp only [write, updF, hp, if_true, List.mem_append, List.mem_singleton, hjk, or_false]; exact a3
            · intro h; simp [write, updF, hp, a5 h]
        · have hp : plOf (E j) ≠ plOf (E k) := fun e => hh (here_iff.2 e.symm)
          refine At.mk' (f := f) (r := r) hlt (by rw [hfr]; simp [fstep, h3, hh]) ?_ a2 ?_ a4 ?_
          · simp [write, List.getElem?_set_ne (show k ≠ j by omega), a1]
          · simp only [write, updF, hp, if_false]; exact a3
          · intro h; simp [write, updF, hp, a5 h]
    · have hjk : k ≠ j := fun e => by subst e; rcases hc with hc | hc; omega; exact hc h3
      simp only [write]
      rw [List.getElem?_set_ne hjk]
      exact h.other j hj (hc.imp (fun h => by omega) id)
    · simp only [write, updF] at hj
      by_cases hp : p = plOf (E k)
      · subst hp
        simp only [if_true, List.mem_append, List.mem_singleton] at hj
        rcases hj with hj | hj
        · have := h.opIn _ _ hj; exact ⟨by omega, this.2⟩
        · subst hj; exact ⟨by omega, h3, rfl⟩
      · rw [if_neg hp] at hj
        have := h.opIn _ _ hj; exact ⟨by omega, this.2⟩
    · have := h.liIn _ _ hj; exact ⟨by omega, this.2⟩
  · rename_i h3
    -- from here on event k is no write
    have oth : (∀ j, j < n → (k ≤ j ∨ (E j).k ≠ 3) → S'.fates[j]? = S.fates[j]?) → ∀ j, j < n → (k + 1 ≤ j ∨ (E j).k ≠ 3) → S'.fates[j]? = some 0 := fun hsame j hj hc => by
      have hc' : k ≤ j ∨ (E j).k ≠ 3 := hc.imp (fun h => by omega) id
      rw [hsame j hj hc']; exact h.other j hj hc'
    have sub : (∀ p, ∀ j ∈ S'.op p, j ∈ S.op p ∨ j ∈ S.li p) → (∀ p, ∀ j ∈ S'.li p, j ∈ S.op p ∨ j ∈ S.li p) →
        (∀ p, ∀ j ∈ S'.op p, j < k + 1 ∧ (E j).k = 3 ∧ plOf (E j) = p) ∧ (∀ p, ∀ j ∈ S'.li p, j < k + 1 ∧ (E j).k = 3 ∧ plOf (E j) = p) := fun h1 h2 =>
      have old : ∀ p j, (j ∈ S.op p ∨ j ∈ S.li p) → j < k + 1 ∧ (E j).k = 3 ∧ plOf (E j) = p := fun p j hx => by
        rcases hx with hx | hx
        · have := h.opIn _ _ hx; exact ⟨by omega, this.2⟩
        · have := h.liIn _ _ hx; exact ⟨by omega, this.2⟩
      ⟨fun p j hj => old p j (h1 p j hj), fun p j hj => old p j (h2 p j hj)⟩
    have nin : ∀ p j, (k ≤ j ∨ (E j).k ≠ 3) → j ∉ S.op p ∧ j ∉ S.li p := fun p j hc =>
      ⟨fun hx => by have := h.opIn _ _ hx; rcases hc with hc | hc; omega; exact hc this.2.1, fun hx => by have := h.liIn _ _ hx; rcases hc with hc | hc; omega; exact hc this.2.1⟩
    have far : ∀ p j, plOf (E j) ≠ p → j ∉ S.op p ∧ j ∉ S.li p := fun p j hp => ⟨fun hx => hp (h.opIn _ _ hx).2.2, fun hx => hp (h.liIn _ _ hx).2.2⟩
    have setA : ∀ xs v j, j < n → (setAll S.fates xs v)[j]? = if j ∈ xs then some v else S.fates[j]? := fun xs v j hj => setAll_get v xs S.fates j (by rw [h.len]; exact hj)
    split at hs
    · rename_i h4
      subst hs
      have old : ∀ j, j < k → j < n → (E j).k = 3 → plOf (E j) ≠ plOf (E k) → ∀ S'' : St, S''.fates[j]? = S.fates[j]? → S''.op (plOf (E j)) = S.op (plOf (E j)) → S''.li (plOf (E j)) = S.li (plOf (E j)) → At E j (k + 1) S'' := fun j hlt hjn hj3 hp S'' e1 e2 e3 => by
        have A := h.at_ j hlt hjn hj3
        have hh : here (E k) (E j) = false := by
          cases hb : here (E k) (E j) with
          | false => rfl
          | true => exact absurd (here_iff.1 hb).symm hp
        exact At.mk' (r := (frun E j (k - (j + 1))).2) hlt (by simp [fstep, h3, h4, hh]) (e1.trans A.fate) A.three (by rw [e2]; exact A.op) (by rw [e3]; exact A.li) (by rw [e2]; exact A.rest)
      by_cases he : S.op (plOf (E k)) = []
      · have hb : back (plOf (E k)) S = { fates := setAll S.fates (S.li (plOf (E k))) 2, op := S.op, li := updF S.li (plOf (E k)) [] } := by simp [back, he]
        rw [hb] at hlen ⊢ oth sub
        have hs1 := sub (fun _ _ h => .inl h) (fun p j hj => by
          simp only [updF] at hj
          split at hj
          · cases hj
          · exact .inr hj)
        refine ⟨by rw [hlen]; exact h.len, fun j hj hjn hj3 => ?_, oth (fun j hj hc => ?_), hs1.1, hs1.2⟩
        · have hjk : j ≠ k := fun e => by subst e; exact h3 hj3
          have hlt : j < k := by omega
          by_cases hp : plOf (E j) = plOf (E k)
          · have hh : here (E k) (E j) = true := here_iff.2 hp.symm
            obtain ⟨a1, a2, a3, a4, a5⟩ := h.at_ j hlt hjn hj3
            rw [hp] at a3 a4 a5
            rw [he] at a3 a5
            generalize hfr : frun E j (k - (j + 1)) = s at a1 a2 a3 a4 a5
            obtain ⟨f, r⟩ := s
            dsimp only at a1 a2 a3 a4 a5
            have hf1 : f ≠ 1 := fun e => by have := a3.2 e; cases this
            have hst : fstep (E j) (E k) (f, r) = (2, r) := by
              by_cases h2 : f = 2
              · subst h2; rw [fstep_two _ _ _ rfl]
              · have h3' : f = 3 := by omega
                have hr : r = 0 := by simpa using a5 h3'
                simp [fstep, h2, h3, h4, hh, hr]
            refine At.mk' hlt (by rw [hfr]; exact hst) ?_ (.inr (.inl rfl)) ?_ ?_ (by omega)
            · rw [setA _ _ _ hjn]
              split
              · rfl
              · rename_i hn
                have : f ≠ 3 := fun e => hn (a4.2 e)
                rw [a1]; congr 1; omega
            · rw [hp]; simp [he]
            · rw [hp]; simp [updF]
          · refine old j hlt hjn hj3 hp _ ?_ rfl ?_
            · show (setAll _ _ _)[j]? = _
              rw [setA _ _ _ hjn, if_neg (far _ _ hp).2]
            · simp [updF, hp]
        · show (setAll _ _ _)[j]? = _
          rw [setA _ _ _ hj, if_neg (nin _ _ hc).2]
      · have hb : back (plOf (E k)) S = { fates := setAll S.fates (S.op (plOf (E k))) 2, op := updF S.op (plOf (E k)) [], li := S.li } := by simp [back, he]
        rw [hb] at hlen ⊢ oth sub
        have hs1 := sub (fun p j hj => by
          simp only [updF] at hj
          split at hj
          · cases hj
          · exact .inl hj) (fun _ _ h => .inr h)
        refine ⟨by rw [hlen]; exact h.len, fun j hj hjn hj3 => ?_, oth (fun j hj hc => ?_), hs1.1, hs1.2⟩
        · have hjk : j ≠ k := fun e => by subst e; exact h3 hj3
          have hlt : j < k := by omega
          by_cases hp : plOf (E j) = plOf (E k)
          · have hh : here (E k) (E j) = true := here_iff.2 hp.symm
            obtain ⟨a1, a2, a3, a4, a5⟩ := h.at_ j hlt hjn hj3
            rw [hp] at a3 a4 a5
            generalize hfr : frun E j (k - (j + 1)) = s at a1 a2 a3 a4 a5
            obtain ⟨f, r⟩ := s
            dsimp only at a1 a2 a3 a4 a5
            by_cases hf1 : f = 1
            · subst hf1
              refine At.mk' (f := 2) (r := 0) hlt (by rw [hfr]; simp [fstep, h4, hh]) ?_ (.inr (.inl rfl)) ?_ ?_ (by omega)
              · rw [setA _ _ _ hjn, if_pos (a3.2 rfl)]
              · rw [hp]; simp [updF]
              · rw [hp]
                have : j ∉ S.li (plOf (E k)) := fun hx => by have := a4.1 hx; omega
                simp [this]
            · have hno : j ∉ S.op (plOf (E k)) := fun hx => hf1 (a3.1 hx)
              by_cases h2 : f = 2
              · subst h2
                refine At.mk' (f := 2) (r := r) hlt (by rw [hfr, fstep_two _ _ _ rfl]) ?_ (.inr (.inl rfl)) ?_ ?_ (by omega)
                · rw [setA _ _ _ hjn, if_neg hno, a1]
                · rw [hp]; simp [updF]
                · rw [hp]; exact a4
              · have h3' : f = 3 := by omega
                subst h3'
                have hr : r ≠ 0 := fun e => he (List.eq_nil_of_length_eq_zero (by have := a5 rfl; omega))
                refine At.mk' (f := 3) (r := 0) hlt (by rw [hfr]; simp [fstep, h4, hh, hr]) ?_ (.inr (.inr rfl)) ?_ ?_ (fun _ => ?_)
                · rw [setA _ _ _ hjn, if_neg hno, a1]
                · rw [hp]; simp [updF]
                · rw [hp]; exact a4
                · rw [hp]; simp [updF]
          · refine old j hlt hjn hj3 hp _ ?_ ?_ rfl
            · show (setAll _ _ _)[j]? = _
              rw [setA _ _ _ hjn, if_neg (far _ _ hp).1]
            · simp [updF, hp]
        · show (setAll _ _ _)[j]? = _
          rw [setA _ _ _ hj, if_neg (nin _ _ hc).1]
    · rename_i h4
      split at hs
      · rename_i h5
        subst hs
        have hs1 := sub (fun p j hj => by
          simp only [lose, updF] at hj
          split at hj
          · cases hj
          · exact .inl hj) (fun p j hj => by
          simp only [lose, updF] at hj
          split at hj
          · rename_i hp; subst hp; exact (List.mem_append.1 hj).symm
          · exact .inr hj)
        refine ⟨by rw [hlen]; exact h.len, fun j hj hjn hj3 => ?_, oth (fun j hj hc => ?_), hs1.1, hs1.2⟩
        · have hjk : j ≠ k := fun e => by subst e; exact h3 hj3
          have hlt : j < k := by omega
          obtain ⟨a1, a2, a3, a4, a5⟩ := h.at_ j hlt hjn hj3
          generalize hfr : frun E j (k - (j + 1)) = s at a1 a2 a3 a4 a5
          obtain ⟨f, r⟩ := s
          dsimp only at a1 a2 a3 a4 a5
          by_cases hp : plOf (E j) = plOf (E k)
          · have hh : here (E k) (E j) = true := here_iff.2 hp.symm
            rw [hp] at a3 a4 a5
            by_cases h2 : f = 2
            · subst h2
              have hno : j ∉ S.op (plOf (E k)) := fun hx => by have := a3.1 hx; omega
              have hnl : j ∉ S.li (plOf (E k)) := fun hx => by have := a4.1 hx; omega
              refine At.mk' (f := 2) (r := r) hlt (by rw [hfr, fstep_two _ _ _ rfl]) ?_ (.inr (.inl rfl)) ?_ ?_ (by omega)
              · show (setAll _ _ _)[j]? = _
                rw [setA _ _ _ hjn, if_neg hno, a1]
              · rw [hp]; simp [lose, updF]
              · rw [hp]; simp [lose, updF, hno, hnl]
            · refine At.mk' (f := 3) (r := 0) hlt (by rw [hfr]; simp [fstep, h2, h3, h4, h5, hh]) ?_ (.inr (.inr rfl)) ?_ ?_ (fun _ => ?_)
              · show (setAll _ _ _)[j]? = _
                rw [setA _ _ _ hjn]
                split
                · rfl
                · rename_i hn
                  have : f ≠ 1 := fun e => hn (a3.2 e)
                  rw [a1]; congr 1; omega
              · rw [hp]; simp [lose, updF]
              · rw [hp]
                have : j ∈ S.li (plOf (E k)) ∨ j ∈ S.op (plOf (E k)) := by
                  rcases a2 with e | e | e
                  · exact .inr (a3.2 e)
                  · exact absurd e h2
                  · exact .inl (a4.2 e)
                simp [lose, updF, this]
              · rw [hp]; simp [lose, updF]
          · have hh : here (E k) (E j) = false := by
              cases hb : here (E k) (E j) with
              | false => rfl
              | true => exact absurd (here_iff.1 hb).symm hp
            refine At.mk' (f := f) (r := r) hlt (by rw [hfr]; simp [fstep, h3, h4, h5, hh]) ?_ a2 ?_ ?_ ?_
            · show (setAll _ _ _)[j]? = _
              rw [setA _ _ _ hjn, if_neg (far _ _ hp).1, a1]
            · simp [lose, updF, hp, a3]
            · simp [lose, updF, hp, a4]
            · intro e; simp [lose, updF, hp, a5 e]
        · show (setAll _ _ _)[j]? = _
          rw [setA _ _ _ hj, if_neg (nin _ _ hc).1]
      · rename_i h5
        split at hs
        · rename_i h8
          have hs1 := sub (fun p j hj => by
            rw [hs.op] at hj
            split at hj
            · cases hj
            · exact .inl hj) (fun p j hj => by
            rw [hs.li] at hj
            split at hj
            · exact (List.mem_append.1 hj).symm
            · exact .inr hj)
          refine ⟨by rw [hlen]; exact h.len, fun j hj hjn hj3 => ?_, oth (fun j hj hc => ?_), hs1.1, hs1.2⟩
          · have hjk : j ≠ k := fun e => by subst e; exact h3 hj3
            have hlt : j < k := by omega
            obtain ⟨a1, a2, a3, a4, a5⟩ := h.at_ j hlt hjn hj3
            generalize hfr : frun E j (k - (j + 1)) = s at a1 a2 a3 a4 a5
            obtain ⟨f, r⟩ := s
            dsimp only at a1 a2 a3 a4 a5
            have miss : j ∉ S.op (plOf (E j)) ∨ (E j).c ≠ (E k).c → S'.fates[j]? = S.fates[j]? := fun hm => hs.miss j (fun p hp hx => by
              have := (h.opIn _ _ hx).2.2
              subst this
              exact hm.elim (fun hm => hm hx) (fun hm => hm hp))
            by_cases hp : (E j).c = (E k).c
            · have hpc : (plOf (E j)).c = (E k).c := hp
              by_cases h2 : f = 2
              · subst h2
                have hno : j ∉ S.op (plOf (E j)) := fun hx => by have := a3.1 hx; omega
                have hnl : j ∉ S.li (plOf (E j)) := fun hx => by have := a4.1 hx; omega
                refine At.mk' (f := 2) (r := r) hlt (by rw [hfr, fstep_two _ _ _ rfl]) ?_ (.inr (.inl rfl)) ?_ ?_ (by omega)
                · rw [miss (.inl hno), a1]
                · rw [hs.op, if_pos hpc]; simp
                · rw [hs.li, if_pos hpc]; simp [hno, hnl]
              · refine At.mk' (f := 3) (r := 0) hlt (by rw [hfr]; simp [fstep, h2, h3, h4, h5, h8, hp.symm]) ?_ (.inr (.inr rfl)) ?_ ?_ (fun _ => ?_)
                · by_cases hf1 : f = 1
                  · exact hs.hit j _ hpc (a3.2 hf1) (by rw [h.len]; exact hjn)
                  · rw [miss (.inl (fun hx => hf1 (a3.1 hx))), a1]; congr 1; omega
                · rw [hs.op, if_pos hpc]; simp
                · rw [hs.li, if_pos hpc]
                  have : j ∈ S.li (plOf (E j)) ∨ j ∈ S.op (plOf (E j)) := by
                    rcases a2 with e | e | e
                    · exact .inr (a3.2 e)
                    · exact absurd e h2
                    · exact .inl (a4.2 e)
                  simp [this]
                · rw [hs.op, if_pos hpc]; rfl
            · have hpc : ¬ (plOf (E j)).c = (E k).c := hp
              refine At.mk' (f := f) (r := r) hlt (by rw [hfr]; simp [fstep, h3, h4, h5, h8, show ¬ (E k).c = (E j).c from fun e => hp e.symm]) ?_ a2 ?_ ?_ ?_
              · rw [miss (.inr hp), a1]
              · rw [hs.op, if_neg hpc]; exact a3
              · rw [hs.li, if_neg hpc]; exact a4
              · rw [hs.op, if_neg hpc]; exact a5
          · exact hs.miss j (fun p _ => (nin p j hc).1)
        · rename_i h8
          subst hs
          refine ⟨h.len, fun j hj hjn hj3 => ?_, oth (fun _ _ _ => rfl), (sub (fun _ _ h => .inl h) (fun _ _ h => .inr h)).1, (sub (fun _ _ h => .inl h) (fun _ _ h => .inr h)).2⟩
          have hjk : j ≠ k := fun e => by subst e; exact h3 hj3
          have hlt : j < k := by omega
          have A := h.at_ j hlt hjn hj3
          exact At.mk' hlt (by simp [fstep, h3, h4, h5, h8]) A.fate A.three A.op A.li A.rest

theorem reach_inv {E : Nat → Evt} {n : Nat} : ∀ {k : Nat} {S : St}, k ≤ n → Reach E n k S → Inv E n k S
  | 0, S, _, h => by simp [Reach] at h; subst h; exact inv_start E n
  | k + 1, S, hk, ⟨S1, h1, h2⟩ => inv_step (reach_inv (by omega) h1) (by omega) h2

theorem reach_fates {E : Nat → Evt} {n : Nat} {S : St} (h : Reach E n n S) : S.fates = (List.range n).map (fate E n) := by
  have I := reach_inv (Nat.le_refl n) h
  apply List.ext_getElem?
  intro j
  by_cases hj : j < n
  · rw [List.getElem?_map, List.getElem?_range hj]
    simp only [Option.map_some, fate]
    split
    · rename_i h3; exact (I.at_ j hj hj h3).fate
    · rename_i h3; exact I.other j hj (.inr h3)
  · rw [List.getElem?_eq_none (by rw [I.len]; omega), List.getElem?_eq_none (by simp; omega)]

end Go.Tn.Ghost
