/- A region that draws its order, whose operations read, make new memory, or fill a box that was made in it: one obligation an operation. No program is named here. -/
import Derived.Test.YtpkdkkbmmkhhhaaGrow
namespace Go.Proofs.Ytpkdkkbmmkhhhaa
set_option maxRecDepth 20000
open Go.RowKit

/-- All blocks stay but those of type T from B on. -/
structure Kept (T : TypeId) (B : Nat) (w w' : World) : Prop where
  size : w.heap.size ≤ w'.heap.size
  low : Below B w w'
  block : ∀ k, k < w.heap.size → (∀ cs z, w.heap[k]? ≠ some (.cells cs T z)) → w'.heap[k]? = w.heap[k]?
theorem kept_below {T : TypeId} {B : Nat} {w w' : World} (h : Below w.heap.size w w') (hB : B ≤ w.heap.size) : Kept T B w w' := ⟨h.size, h.mono hB, fun k hk _ => h.block k hk⟩

theorem own_kept {T e : TypeId} {B base size n : Nat} {w w' : World} {v : Value} {xs : List Value} (h : w.ownsRow base e size v n xs) (hk : Kept T B w w') (ht : e ≠ T) : w'.ownsRow base e size v n xs := by
  refine ⟨h.1, ?_⟩
  rcases h.2 with hn | ⟨g, cap, cur, hv, hg, hh, r⟩
  · exact .inl hn
  · refine .inr ⟨g, cap, cur, hv, hg, ?_, r⟩
    rw [hk.block g (Array.getElem?_eq_some_iff.1 hh).1 (fun cs z he => ?_)]
    · exact hh
    · rw [hh] at he
      injection he with he
      injection he with _ he _
      exact ht he

theorem kept_grown {e : TypeId} {base size n : Nat} {w w' : World} {v : Value} {xs : List Value} (h : w.ownsRow base e size v n xs) (hg : w.grownBy w' v.ownBlock) (hb : Below base w w') : Kept e base w w' := by
  refine ⟨hb.size, hb, fun k hk hne => hg.block k hk fun hv => ?_⟩
  rcases h.2 with ⟨rfl, _⟩ | ⟨g, cap, cur, rfl, _, hh, _⟩
  · cases hv
  · simp only [Value.ownBlock, Option.some.injEq] at hv
    subst hv
    exact hne _ _ hh
theorem own_kept2 {T e t : TypeId} {B base size n : Nat} {w w' : World} {v : Value} {xs : List Value} (h : w.ownsRow base t size v n xs) (hk : Kept T B w w' ∨ Kept e B w w') (h1 : t ≠ T) (h2 : t ≠ e) : w'.ownsRow base t size v n xs :=
  hk.elim (fun k => own_kept h k h1) (fun k => own_kept h k h2)

/-- What is known of an operation's value: which one it is; something that stays; something that stays until operation k has come up; that it is a new box; that it has filled the box of operation k. -/
inductive Kind (T e : TypeId) (B : Nat) where
  | val (v : Value)
  | pred (F : Value → World → Prop) (h : ∀ v w w', F v w → Kept T B w w' ∨ Kept e B w w' → F v w')
  | grow (F : Value → World → Prop) (h : ∀ v w w', F v w → Kept T B w w' → F v w')
  | temp (k : Nat) (F : Value → World → Prop) (h : ∀ v w w', F v w → Kept T B w w' → F v w')
  | box (z : Array Value)
  | put (k : Nat) (G : Nat → World → Prop) (h : ∀ X w w', G X w → Kept T B w w' ∨ Kept e B w w' → w'.heap[X]? = w.heap[X]? → G X w')

section
variable {T e : TypeId} {B : Nat}
def kindAt (Fs : List (Kind T e B)) (j : Nat) : Kind T e B := Fs.getD j (.pred (fun _ _ => True) fun _ _ _ _ _ => trivial)
def zAt (Fs : List (Kind T e B)) (j : Nat) : Array Value := match kindAt Fs j with
  | .box z => z
  | _ => #[]
/-- Operation j fills the box k. -/
def fillsB (Fs : List (Kind T e B)) (j k : Nat) : Bool := match kindAt Fs j with
  | .put m _ _ => m == k
  | _ => false
def isBoxB (Fs : List (Kind T e B)) (j : Nat) : Bool := match kindAt Fs j with
  | .box _ => true
  | _ => false
def boxPtr (X : Nat) : Value := .pointer (some ⟨X, 0, none⟩)
def holdsK (Fs : List (Kind T e B)) (b : Array Bool) (us : Nat → Value) (w : World) (j : Nat) : Prop := match kindAt Fs j with
  | .val x => us j = x
  | .pred F _ => F (us j) w
  | .grow F _ => F (us j) w
  | .temp k F _ => b.getD k false = false → F (us j) w
  | .box z => ∃ X, us j = boxPtr X ∧ B ≤ X ∧ X < w.heap.size ∧ ((∀ i, fillsB Fs i j = true → b.getD i false = false) → w.heap[X]? = some (.cells z T (0, 0)))
  | .put k G _ => ∃ X, us k = boxPtr X ∧ B ≤ X ∧ X < w.heap.size ∧ (∃ cs, w.heap[X]? = some (.cells cs T (0, 0))) ∧ G X w

/-- Each box is filled by one operation, which waits for it. -/
def boxesB (ops : List Oper) (Fs : List (Kind T e B)) : Bool :=
  (List.range ops.length).all fun i => match kindAt Fs i with
    | .put k _ _ => isBoxB Fs k && (match ops[i]? with
      | some o => (depsOf o).contains k
      | none => false) && (List.range ops.length).all fun j => !fillsB Fs j k || j == i
    | .grow _ _ => (List.range ops.length).all fun j => match kindAt Fs j with
      | .temp k _ _ => k == i
      | .grow _ _ => j == i
      | _ => true
    | _ => true

def fillK : List Oper → List (Kind T e B) → Nat → (Nat → Value) → Act → Act
  | o :: l, .val x :: Fs, k, us, a => fillK l Fs (k + 1) us (a.put o.dst x)
  | o :: l, .pred _ _ :: Fs, k, us, a => fillK l Fs (k + 1) us (a.put o.dst (us k))
  | o :: l, .grow _ _ :: Fs, k, us, a => fillK l Fs (k + 1) us (a.put o.dst (us k))
  | o :: l, .temp _ _ _ :: Fs, k, us, a => fillK l Fs (k + 1) us (a.put o.dst (us k))
  | o :: l, .box _ :: Fs, k, us, a => fillK l Fs (k + 1) us (a.put o.dst (us k))
  | o :: l, .put _ _ _ :: Fs, k, us, a => fillK l Fs (k + 1) us (a.put o.dst (us k))
  | o :: l, [], k, us, a => fillK l [] (k + 1) us (a.put o.dst (us k))
  | [], _, _, _, a => a
def KnownK (Fs : List (Kind T e B)) (us : Nat → Value) : Prop := ∀ i x, Fs[i]? = some (.val x) → us i = x
theorem fillK_eq : ∀ (l : List Oper) (Fs : List (Kind T e B)) (k : Nat) (us : Nat → Value) (a : Act), (∀ i x, Fs[i]? = some (.val x) → us (k + i) = x) → fillOps l k us a = fillK l Fs k us a
  | [], _, _, _, _, _ => by simp [fillOps, fillK]
  | o :: l, [], k, us, a, h => by
    rw [fillOps, fillK]
    exact fillK_eq l [] (k + 1) us _ fun i x hi => by simp at hi
  | o :: l, .val x :: Fs, k, us, a, h => by
    rw [fillOps, fillK, show us k = x from h 0 x rfl]
    exact fillK_eq l Fs (k + 1) us _ fun i y hi => by rw [show k + 1 + i = k + (i + 1) by omega]; exact h (i + 1) y (by simpa using hi)
  | o :: l, .pred F hF :: Fs, k, us, a, h => by
    rw [fillOps, fillK]
    exact fillK_eq l Fs (k + 1) us _ fun i y hi => by rw [show k + 1 + i = k + (i + 1) by omega]; exact h (i + 1) y (by simpa using hi)
  | o :: l, .grow F hF :: Fs, k, us, a, h => by
    rw [fillOps, fillK]
    exact fillK_eq l Fs (k + 1) us _ fun i y hi => by rw [show k + 1 + i = k + (i + 1) by omega]; exact h (i + 1) y (by simpa using hi)
  | o :: l, .temp m F hF :: Fs, k, us, a, h => by
    rw [fillOps, fillK]
    exact fillK_eq l Fs (k + 1) us _ fun i y hi => by rw [show k + 1 + i = k + (i + 1) by omega]; exact h (i + 1) y (by simpa using hi)
  | o :: l, .box z :: Fs, k, us, a, h => by
    rw [fillOps, fillK]
    exact fillK_eq l Fs (k + 1) us _ fun i y hi => by rw [show k + 1 + i = k + (i + 1) by omega]; exact h (i + 1) y (by simpa using hi)
  | o :: l, .put m G hG :: Fs, k, us, a, h => by
    rw [fillOps, fillK]
    exact fillK_eq l Fs (k + 1) us _ fun i y hi => by rw [show k + 1 + i = k + (i + 1) by omega]; exact h (i + 1) y (by simpa using hi)
theorem KnownK.upd {Fs : List (Kind T e B)} {us : Nat → Value} (h : KnownK Fs us) {i : Nat} {v : Value} (hv : ∀ x, Fs[i]? = some (.val x) → v = x) : KnownK Fs (upd us i v) := by
  intro j x hj
  by_cases e : j = i
  · subst e
    simpa [Go.Proofs.Ytpkdkkbmmkhhhaa.upd] using hv x hj
  · simpa [Go.Proofs.Ytpkdkkbmmkhhhaa.upd, e] using h j x hj
def knownK (Fs : List (Kind T e B)) : Nat → Value := fun i => match Fs[i]? with
  | some (.val x) => x
  | _ => undef
theorem known_k (Fs : List (Kind T e B)) : KnownK Fs (knownK Fs) := fun i x h => by simp [knownK, h]

/-- What is known of what an operation waits for. -/
def depsHold (Fs : List (Kind T e B)) (us : Nat → Value) (w : World) (i j : Nat) : Prop := match kindAt Fs j with
  | .val x => us j = x
  | .pred F _ => F (us j) w
  | .grow F _ => F (us j) w
  | .temp k F _ => k = i → F (us j) w
  | .box _ => ∃ X, us j = boxPtr X ∧ B ≤ X ∧ X < w.heap.size
  | .put k G _ => ∃ X, us k = boxPtr X ∧ B ≤ X ∧ X < w.heap.size ∧ G X w
theorem depsHold_of {Fs : List (Kind T e B)} {b : Array Bool} {us : Nat → Value} {w : World} {i j : Nat} (h : holdsK Fs b us w j) (hun : b.getD i false = false) : depsHold Fs us w i j := by
  unfold holdsK at h
  unfold depsHold
  revert h
  cases kindAt Fs j with
  | val x => exact id
  | pred F hF => exact id
  | grow F hF => exact id
  | temp k F hF => intro h hk; subst hk; exact h hun
  | box z => rintro ⟨X, h1, h2, h3, _⟩; exact ⟨X, h1, h2, h3⟩
  | put k G hG => rintro ⟨X, h1, h2, h3, _, h5⟩; exact ⟨X, h1, h2, h3, h5⟩

def stepOf (P : Program) (ops : Array Oper) (base : World) (A : (Nat → Value) → Act) (Fs : List (Kind T e B)) (o : Oper) (i : Nat) (f : Kind T e B) : Prop :=
  ∀ us W, Below base.heap.size base W → (∀ j, (depsOf o).contains j = true → depsHold Fs us W i j) → match f with
    | .val x => ∀ K : Act → World → Prop, (∀ v W', Below W.heap.size W W' → v = x → K ((A us).put o.dst v) W') →
      if Region.wanted o (yielded ops (A us).tmps) then o.wp P (A us) W K NoQ else K ((A us).put o.dst undef) W
    | .pred F _ => ∀ K : Act → World → Prop, (∀ v W', Below W.heap.size W W' → F v W' → K ((A us).put o.dst v) W') →
      if Region.wanted o (yielded ops (A us).tmps) then o.wp P (A us) W K NoQ else K ((A us).put o.dst undef) W
    | .grow F _ => ∀ K : Act → World → Prop, (∀ v W', Kept e B W W' → F v W' → K ((A us).put o.dst v) W') →
      if Region.wanted o (yielded ops (A us).tmps) then o.wp P (A us) W K NoQ else K ((A us).put o.dst undef) W
    | .temp _ F _ => ∀ K : Act → World → Prop, (∀ v W', Below W.heap.size W W' → F v W' → K ((A us).put o.dst v) W') →
      if Region.wanted o (yielded ops (A us).tmps) then o.wp P (A us) W K NoQ else K ((A us).put o.dst undef) W
    | .box z => ∀ K : Act → World → Prop, (∀ v W', v = boxPtr W.heap.size → W' = W.alloc (.cells z T) → K ((A us).put o.dst v) W') →
      if Region.wanted o (yielded ops (A us).tmps) then o.wp P (A us) W K NoQ else K ((A us).put o.dst undef) W
    | .put k G _ => ∀ X, us k = boxPtr X → B ≤ X → W.heap[X]? = some (.cells (zAt Fs k) T (0, 0)) → ∀ K : Act → World → Prop, (∀ v W', Below X W W' → (∀ j, j ≠ X → W'.heap[j]? = W.heap[j]?) → (∃ cs, W'.heap[X]? = some (.cells cs T (0, 0))) → G X W' → K ((A us).put o.dst v) W') →
      if Region.wanted o (yielded ops (A us).tmps) then o.wp P (A us) W K NoQ else K ((A us).put o.dst undef) W

def BoxSteps (P : Program) (ops : Array Oper) (base : World) (A : (Nat → Value) → Act) (Fs : List (Kind T e B)) : List Oper → List (Kind T e B) → Nat → Prop
  | [], _, _ => True
  | _ :: _, [], _ => False
  | o :: l, f :: Gs, i => stepOf P ops base A Fs o i f ∧ BoxSteps P ops base A Fs l Gs (i + 1)
theorem boxSteps_at {P : Program} {ops : Array Oper} {base : World} {A : (Nat → Value) → Act} {Fs : List (Kind T e B)} : ∀ (l : List Oper) (Gs : List (Kind T e B)) (m i : Nat) (o : Oper), BoxSteps P ops base A Fs l Gs m → l[i]? = some o → stepOf P ops base A Fs o (m + i) (kindAt Gs i)
  | [], _, m, i, o, _, h => by simp at h
  | p :: l, [], m, i, o, hg, _ => (hg : False).elim
  | p :: l, f :: Gs, m, 0, o, hg, h => by
    obtain rfl : p = o := by simpa using h
    exact hg.1
  | p :: l, f :: Gs, m, i + 1, o, hg, h => by
    have := boxSteps_at l Gs (m + 1) i o hg.2 (by simpa using h)
    rw [show m + 1 + i = m + (i + 1) by omega] at this
    simpa [kindAt] using this

/-- What is known of an operation stays so while memory is made. -/
theorem holdsK_grow {Fs : List (Kind T e B)} {b b' : Array Bool} {us us' : Nat → Value} {w w' : World} {j : Nat} (h : holdsK Fs b us w j) (hb : Below w.heap.size w w') (hB : B ≤ w.heap.size) (hus : us' j = us j) (hus2 : ∀ k, fillsB Fs j k = true → us' k = us k) (hbb : ∀ i, b'.getD i false = false → b.getD i false = false) : holdsK Fs b' us' w' j := by
  have hf : ∀ k G hG, kindAt Fs j = .put k G hG → fillsB Fs j k = true := fun k G hG e => by simp [fillsB, e]
  unfold holdsK at h ⊢
  revert h hf
  cases kindAt Fs j with
  | val x => intro h _; rw [hus]; exact h
  | pred F hF => intro h _; rw [hus]; exact hF _ _ _ h (.inl (kept_below hb hB))
  | grow F hF => intro h _; rw [hus]; exact hF _ _ _ h (kept_below hb hB)
  | temp k F hF => intro h _ hk; rw [hus]; exact hF _ _ _ (h (hbb k hk)) (kept_below hb hB)
  | box z =>
    rintro ⟨X, h1, h2, h3, h4⟩ _
    exact ⟨X, hus.trans h1, h2, Nat.lt_of_lt_of_le h3 hb.size, fun hi => (hb.block X h3).trans (h4 fun i hi2 => hbb i (hi i hi2))⟩
  | put k G hG =>
    rintro ⟨X, h1, h2, h3, ⟨cs, h5⟩, h4⟩ hf
    exact ⟨X, (hus2 k (hf k G hG rfl)).trans h1, h2, Nat.lt_of_lt_of_le h3 hb.size, ⟨cs, (hb.block X h3).trans h5⟩, hG X _ _ h4 (.inl (kept_below hb hB)) (hb.block X h3)⟩

theorem kindAt_val {Fs : List (Kind T e B)} {i : Nat} {x : Value} (h : Fs[i]? = some (.val x)) : kindAt Fs i = .val x := by simp [kindAt, h]
theorem fills_lt {Fs : List (Kind T e B)} {i k : Nat} (h : fillsB Fs i k = true) : i < Fs.length := by
  by_cases hi : i < Fs.length
  · exact hi
  · simp [fillsB, kindAt, hi] at h
theorem boxes_spec {ops : List Oper} {Fs : List (Kind T e B)} (h : boxesB ops Fs = true) {i k : Nat} {G : Nat → World → Prop} {hG} (hk : kindAt Fs i = .put k G hG) (hi : i < ops.length) :
    isBoxB Fs k = true ∧ (∃ o, ops[i]? = some o ∧ (depsOf o).contains k = true) ∧ ∀ j, j < ops.length → fillsB Fs j k = true → j = i := by
  simp only [boxesB, List.all_eq_true, List.mem_range] at h
  have h1 := h i hi
  simp only [hk, Bool.and_eq_true, List.all_eq_true, List.mem_range, Bool.or_eq_true, Bool.not_eq_true', beq_iff_eq] at h1
  obtain ⟨⟨h2, h3⟩, h4⟩ := h1
  refine ⟨h2, ?_, fun j hj hf => ?_⟩
  · cases ho : ops[i]? with
    | none => simp [ho] at h3
    | some o => exact ⟨o, rfl, by simpa [ho] using h3⟩
  · rcases h4 j hj with h5 | h5
    · rw [hf] at h5; cases h5
    · exact h5
theorem grow_spec {ops : List Oper} {Fs : List (Kind T e B)} (h : boxesB ops Fs = true) {i : Nat} {F : Value → World → Prop} {hF} (hk : kindAt Fs i = .grow F hF) (hi : i < ops.length) :
    (∀ j, j < ops.length → ∀ k G hG, kindAt Fs j = .temp k G hG → k = i) ∧ ∀ j, j < ops.length → ∀ G hG, kindAt Fs j = .grow G hG → j = i := by
  simp only [boxesB, List.all_eq_true, List.mem_range] at h
  have h1 := h i hi
  simp only [hk, List.all_eq_true, List.mem_range] at h1
  refine ⟨fun j hj k G hG ej => ?_, fun j hj G hG ej => ?_⟩
  · have h2 := h1 j hj
    simpa only [ej, beq_iff_eq] using h2
  · have h2 := h1 j hj
    simpa only [ej, beq_iff_eq] using h2
theorem put_spec {Fs : List (Kind T e B)} {j k : Nat} (h : fillsB Fs j k = true) : ∃ G hG, kindAt Fs j = .put k G hG := by
  unfold fillsB at h
  cases e : kindAt Fs j with
  | put m G hG =>
    simp only [e, beq_iff_eq] at h
    subst h
    exact ⟨G, hG, rfl⟩
  | _ => simp [e] at h
theorem isBox_spec {Fs : List (Kind T e B)} {k : Nat} (h : isBoxB Fs k = true) : kindAt Fs k = .box (zAt Fs k) := by
  unfold isBoxB at h
  unfold zAt
  cases e : kindAt Fs k with
  | box z => rfl
  | _ => simp [e] at h
theorem boxPtr_inj {X Y : Nat} (h : boxPtr X = boxPtr Y) : X = Y := by
  unfold boxPtr at h
  injection h with h
  injection h with h
  injection h

/-- What holds on the way. -/
structure BoxInv (l : List Oper) (w : World) (Fs : List (Kind T e B)) (b : Array Bool) (us : Nat → Value) (W : World) : Prop where
  known : KnownK Fs us
  len : b.size = l.length
  low : Below w.heap.size w W
  hold : ∀ i, i < l.length → b.getD i false = true → holdsK Fs b us W i
  deps : ∀ i k, i < l.length → b.getD i false = true → fillsB Fs i k = true → b.getD k false = true
  apart : ∀ i j, b.getD i false = true → b.getD j false = true → isBoxB Fs i = true → isBoxB Fs j = true → i ≠ j → us i ≠ us j

theorem set_false {b : Array Bool} {i j : Nat} (h : (b.setIfInBounds i true).getD j false = false) (hun : b.getD i false = false) : b.getD j false = false := by
  by_cases e : j = i
  · subst e; exact hun
  · rwa [getD_set_ne false (Ne.symm e)] at h
theorem set_true {b : Array Bool} {i j : Nat} (h : (b.setIfInBounds i true).getD j false = true) (hji : j ≠ i) : b.getD j false = true := by
  rwa [getD_set_ne false (Ne.symm hji)] at h
theorem set_keeps {b : Array Bool} {i j : Nat} (h : b.getD j false = true) (hun : b.getD i false = false) : (b.setIfInBounds i true).getD j false = true := by
  by_cases e : j = i
  · subst e; rw [h] at hun; cases hun
  · rwa [getD_set_ne false (Ne.symm e)]

/-- An operation that reads, or makes new memory. -/
theorem BoxInv.grow {l : List Oper} {w W W' : World} {Fs : List (Kind T e B)} {b : Array Bool} {us : Nat → Value} (h : BoxInv l w Fs b us W) (hBw : B = w.heap.size) {i : Nat} (hi : i < l.length) (hun : b.getD i false = false) {v : Value}
    (hb : Below W.heap.size W W') (hv : ∀ x, Fs[i]? = some (.val x) → v = x) (hnew : holdsK Fs (b.setIfInBounds i true) (upd us i v) W' i) (hput : ∀ k, fillsB Fs i k = false) (hbox : isBoxB Fs i = true → v = boxPtr W.heap.size) :
    BoxInv l w Fs (b.setIfInBounds i true) (upd us i v) W' := by
  have hW : B ≤ W.heap.size := by rw [hBw]; exact h.low.size
  have hne : ∀ j, j ≠ i → upd us i v j = us j := fun j hj => by simp [upd, hj]
  have hbx : isBoxB Fs i = true → ∀ j, b.getD j false = true → j < l.length → isBoxB Fs j = true → boxPtr W.heap.size ≠ us j := fun _ j hj hjl hjb he => by
    have h2 := h.hold j hjl hj
    unfold holdsK at h2
    rw [isBox_spec hjb] at h2
    obtain ⟨X, h3, _, h5, _⟩ := h2
    rw [h3] at he
    have := boxPtr_inj he
    omega
  have hin : ∀ j, b.getD j false = true → j < l.length := fun j hj => by
    by_cases hjl : j < b.size
    · rw [← h.len]; exact hjl
    · simp [hjl] at hj
  refine ⟨h.known.upd hv, by simp [h.len], h.low.trans (hb.mono h.low.size), fun j hj hd => ?_, fun j k hj hd hf => ?_, fun j k hj hk hjb hkb hjk => ?_⟩
  · by_cases e : j = i
    · subst e; exact hnew
    · refine holdsK_grow (h.hold j hj (set_true hd e)) hb hW (hne j e) (fun k hk => hne k ?_) (fun m hm => set_false hm hun)
      intro hki
      have := h.deps j k hj (set_true hd e) hk
      rw [hki, hun] at this; cases this
  · by_cases e : j = i
    · subst e; rw [hput k] at hf; cases hf
    · exact set_keeps (h.deps j k hj (set_true hd e) hf) hun
  · by_cases e : j = i
    · have e2 : k ≠ i := fun e2 => hjk (e.trans e2.symm)
      have hk' := set_true hk e2
      rw [e, hne k e2, show upd us i v i = v by simp [upd], hbox (by rw [← e]; exact hjb)]
      exact hbx (by rw [← e]; exact hjb) k hk' (hin k hk') hkb
    · by_cases e2 : k = i
      · have hj' := set_true hj e
        rw [e2, hne j e, show upd us i v i = v by simp [upd], hbox (by rw [← e2]; exact hkb)]
        exact fun hx => hbx (by rw [← e2]; exact hkb) j hj' (hin j hj') hjb hx.symm
      · rw [hne j e, hne k e2]
        exact h.apart j k (set_true hj e) (set_true hk e2) hjb hkb hjk

/-- An operation that fills a box. -/
theorem BoxInv.fill {l : List Oper} {w W W' : World} {Fs : List (Kind T e B)} {b : Array Bool} {us : Nat → Value} (h : BoxInv l w Fs b us W) (hBw : B = w.heap.size) {i : Nat} (hi : i < l.length) (hun : b.getD i false = false) {v : Value} (hmbox : ∀ j m, j < l.length → fillsB Fs j m = true → isBoxB Fs m = true)
    {k X : Nat} {G : Nat → World → Prop} {hG} (hki : kindAt Fs i = .put k G hG) (hkb : isBoxB Fs k = true) (hkd : b.getD k false = true) (hone : ∀ j, j < l.length → fillsB Fs j k = true → j = i)
    (hX : us k = boxPtr X) (hBX : B ≤ X) (hlt : X < W.heap.size) {z : Array Value} (hz : W.heap[X]? = some (.cells z T (0, 0))) (hb : Below X W W') (hoth : ∀ j, j ≠ X → W'.heap[j]? = W.heap[j]?) (hcs : ∃ cs, W'.heap[X]? = some (.cells cs T (0, 0))) (hg : G X W') :
    BoxInv l w Fs (b.setIfInBounds i true) (upd us i v) W' := by
  have hne : ∀ j, j ≠ i → upd us i v j = us j := fun j hj => by simp [upd, hj]
  have hib : isBoxB Fs i = false := by simp [isBoxB, hki]
  have hki' : k ≠ i := fun e => by rw [e] at hkb; rw [hib] at hkb; cases hkb
  have hkept : Kept T B W W' := ⟨hb.size, hb.mono hBX, fun j _ hj => hoth j fun e => by subst e; exact hj _ _ hz⟩
  have hfi : fillsB Fs i k = true := by simp [fillsB, hki]
  refine ⟨h.known.upd (fun x hx => by rw [kindAt_val hx] at hki; cases hki), by simp [h.len], h.low.trans (hb.mono (by omega)), fun j hj hd => ?_, fun j m hj hd hf => ?_, fun j m hj hm hjb hmb hjm => ?_⟩
  · by_cases e : j = i
    · subst e
      unfold holdsK
      rw [hki]
      exact ⟨X, (hne k hki').trans hX, hBX, Nat.lt_of_lt_of_le hlt hb.size, hcs, hg⟩
    · have h2 := h.hold j hj (set_true hd e)
      have hdj := h.deps j
      unfold holdsK at h2 ⊢
      cases ek : kindAt Fs j with
      | val x => rw [ek] at h2; exact (hne j e).trans h2
      | pred F hF => rw [ek] at h2; simp only at h2 ⊢; rw [hne j e]; exact hF _ _ _ h2 (.inl hkept)
      | grow F hF => rw [ek] at h2; simp only at h2 ⊢; rw [hne j e]; exact hF _ _ _ h2 hkept
      | temp m F hF => rw [ek] at h2; simp only at h2 ⊢; intro hm; rw [hne j e]; exact hF _ _ _ (h2 (set_false hm hun)) hkept
      | box y =>
        rw [ek] at h2
        obtain ⟨Y, h3, h4, h5, h6⟩ := h2
        refine ⟨Y, (hne j e).trans h3, h4, Nat.lt_of_lt_of_le h5 hb.size, fun hi2 => ?_⟩
        by_cases ejk : j = k
        · subst ejk
          have := hi2 i hfi
          rw [show (b.setIfInBounds i true).getD i false = true by simp [h.len, hi]] at this; cases this
        · have : Y ≠ X := fun eY => by
            subst eY
            exact h.apart j k (set_true hd e) hkd (by simp [isBoxB, ek]) hkb ejk (h3.trans hX.symm)
          rw [hoth Y this]
          exact h6 fun m hm => set_false (hi2 m hm) hun
      | put m G' hG' =>
        rw [ek] at h2
        obtain ⟨Y, h3, h4, h5, ⟨cs, h7⟩, h6⟩ := h2
        have hfm : fillsB Fs j m = true := by simp [fillsB, ek]
        have hmd := hdj m hj (set_true hd e) hfm
        have hmi : m ≠ i := fun em => by rw [em, hun] at hmd; cases hmd
        have hmk : m ≠ k := fun em => e (hone j hj (by rw [← em]; exact hfm))
        have hm3 : isBoxB Fs m = true := hmbox j m hj hfm
        have : Y ≠ X := fun eY => by
          subst eY
          exact h.apart m k hmd hkd hm3 hkb hmk (h3.trans hX.symm)
        exact ⟨Y, (hne m hmi).trans h3, h4, Nat.lt_of_lt_of_le h5 hb.size, ⟨cs, (hoth Y this).trans h7⟩, hG' Y _ _ h6 (.inl hkept) (hoth Y this)⟩
  · by_cases e : j = i
    · subst e
      obtain ⟨G2, hG2, e2⟩ := put_spec hf
      rw [hki] at e2
      injection e2 with e2
      subst e2
      exact set_keeps hkd hun
    · exact set_keeps (h.deps j m hj (set_true hd e) hf) hun
  · have e : j ≠ i := fun e => by rw [e, hib] at hjb; cases hjb
    have e2 : m ≠ i := fun e => by rw [e, hib] at hmb; cases hmb
    rw [hne j e, hne m e2]
    exact h.apart j m (set_true hj e) (set_true hm e2) hjb hmb hjm

/-- An operation that lengthens a row of another type. -/
theorem BoxInv.app {l : List Oper} {w W W' : World} {Fs : List (Kind T e B)} {b : Array Bool} {us : Nat → Value} (h : BoxInv l w Fs b us W) (hTe : T ≠ e) (hBw : B = w.heap.size) {i : Nat} (hi : i < l.length) (hun : b.getD i false = false) {v : Value} {F : Value → World → Prop} {hF}
    (hki : kindAt Fs i = .grow F hF) (htmp : ∀ j, j < l.length → ∀ k G hG, kindAt Fs j = .temp k G hG → k = i) (hone : ∀ j, j < l.length → ∀ G hG, kindAt Fs j = .grow G hG → j = i) (hb : Kept e B W W') (hf : F v W') : BoxInv l w Fs (b.setIfInBounds i true) (upd us i v) W' := by
  have hne : ∀ j, j ≠ i → upd us i v j = us j := fun j hj => by simp [upd, hj]
  have hib : isBoxB Fs i = false := by simp [isBoxB, hki]
  have hkeep : ∀ (X : Nat) (cs : Array Value), W.heap[X]? = some (Obj.cells cs T (0, 0)) → W'.heap[X]? = W.heap[X]? := fun X cs hX => hb.block X (Array.getElem?_eq_some_iff.1 hX).1 fun cs2 z2 he => by
    rw [hX] at he
    cases he
    exact hTe rfl
  refine ⟨h.known.upd (fun x hx => by rw [kindAt_val hx] at hki; cases hki), by simp [h.len], h.low.trans (by rw [← hBw]; exact hb.low), fun j hj hd => ?_, fun j m hj hd hf2 => ?_, fun j m hj hm hjb hmb hjm => ?_⟩
  · by_cases ej : j = i
    · subst ej
      unfold holdsK
      rw [hki]
      simpa [upd] using hf
    · have h2 := h.hold j hj (set_true hd ej)
      have hdj := h.deps j
      unfold holdsK at h2 ⊢
      cases ek : kindAt Fs j with
      | val x => rw [ek] at h2; exact (hne j ej).trans h2
      | pred G hG => rw [ek] at h2; simp only at h2 ⊢; rw [hne j ej]; exact hG _ _ _ h2 (.inr hb)
      | grow G hG => exact absurd (hone j hj G hG ek) ej
      | temp m G hG =>
        simp only
        intro hm
        rw [htmp j hj m G hG ek, show (b.setIfInBounds i true).getD i false = true by simp [h.len, hi]] at hm
        cases hm
      | box y =>
        rw [ek] at h2
        obtain ⟨Y, h3, h4, h5, h6⟩ := h2
        refine ⟨Y, (hne j ej).trans h3, h4, Nat.lt_of_lt_of_le h5 hb.size, fun hi2 => ?_⟩
        have h7 := h6 fun m hm => set_false (hi2 m hm) hun
        exact (hkeep Y _ h7).trans h7
      | put m G' hG' =>
        rw [ek] at h2
        obtain ⟨Y, h3, h4, h5, ⟨cs, h7⟩, h6⟩ := h2
        have hfm : fillsB Fs j m = true := by simp [fillsB, ek]
        have hmd := hdj m hj (set_true hd ej) hfm
        have hmi : m ≠ i := fun em => by rw [em, hun] at hmd; cases hmd
        exact ⟨Y, (hne m hmi).trans h3, h4, Nat.lt_of_lt_of_le h5 hb.size, ⟨cs, (hkeep Y _ h7).trans h7⟩, hG' Y _ _ h6 (.inr hb) (hkeep Y _ h7)⟩
  · by_cases ej : j = i
    · subst ej
      simp [fillsB, hki] at hf2
    · exact set_keeps (h.deps j m hj (set_true hd ej) hf2) hun
  · have ej : j ≠ i := fun ej => by rw [ej, hib] at hjb; cases hjb
    have e2 : m ≠ i := fun ej => by rw [ej, hib] at hmb; cases hmb
    rw [hne j ej, hne m e2]
    exact h.apart j m (set_true hj ej) (set_true hm e2) hjb hmb hjm

/-- **A region that draws its order, whose operations read, make new memory, or fill a box made in it: one obligation an operation.** Fs: what is known of each operation. -/
theorem wp_region_boxes {P : Program} {id : Nat} {Q : Exit → Act → World → Prop} {a : Act} {w : World} {l : List Oper} {T e : TypeId} (hTe : T ≠ e) (Fs : List (Kind T e w.heap.size)) {A : (Nat → Value) → Act}
    (hA : ∀ us (X : Act → Prop), X (A us) → X (fillK l Fs 0 us a)) (hm : P.follows .mixedOrders = true) (hw : wiredB .any l.toArray = true) (hlen : Fs.length = l.length) (hx : boxesB l Fs = true)
    (h : BoxSteps P l.toArray w A Fs l Fs 0)
    (hend : ∀ us W, Below w.heap.size w W → (∀ j, j < l.length → depsHold Fs us W l.length j) → Q .normal (A us) W) : (Code.region id l.toArray true).wp P Q a w := by
  have hfill : ∀ us, KnownK Fs us → fillOps l 0 us a = A us := fun us hk => by rw [fillK_eq l Fs 0 us a (fun i x hi => by rw [Nat.zero_add]; exact hk i x hi)]; exact hA us (fun b => b = A us) rfl
  refine wp_region_inv hm hw (BoxInv l w Fs) (knownK Fs) ⟨known_k Fs, by simp, (Below.refl _ _).drew, fun i hi hd => ?_, fun i k hi hd => ?_, fun i j hd => ?_⟩ ?_ ?_
  · by_cases hlt : i < l.length <;> simp [hlt] at hd
  · by_cases hlt : i < l.length <;> simp [hlt] at hd
  · by_cases hlt : i < l.length <;> simp [hlt] at hd
  · rintro i o b us W ho hJ hun hall K hK
    have ho' : l[i]? = some o := by simpa using ho
    have hi : i < l.length := (List.getElem?_eq_some_iff.1 ho').1
    replace hun : b.getD i false = false := by
      have hib : i < b.size := by rw [hJ.len]; exact hi
      simpa [Array.getD, hib] using hun
    simp only [hfill us hJ.known] at hK ⊢
    have hdone : ∀ j, (depsOf o).contains j = true → b.getD j false = true := fun j hj => by
      obtain ⟨e, he, rfl⟩ := List.mem_map.1 (List.contains_iff_mem.1 hj)
      obtain ⟨h1, h2⟩ := List.mem_filter.1 he
      exact hall e (by simpa using h1) h2
    have hin : ∀ j, b.getD j false = true → j < l.length := fun j hj => by
      by_cases hjl : j < b.size
      · rw [← hJ.len]; exact hjl
      · simp [hjl] at hj
    have hs := boxSteps_at l Fs 0 i o h ho' us W hJ.low (fun j hj => depsHold_of (hJ.hold j (hin j (hdone j hj)) (hdone j hj)) (by rw [Nat.zero_add]; exact hun))
    cases ek : kindAt Fs i with
    | val x =>
      simp only [ek] at hs
      refine hs K fun v W' hb hv => hK v W' (hJ.grow rfl hi hun hb (fun y hy => by rw [kindAt_val hy] at ek; injection ek with ek; rw [hv, ek]) ?_ (fun k => by simp [fillsB, ek]) (fun hbx => by simp [isBoxB, ek] at hbx))
      unfold holdsK; rw [ek]; simpa [upd] using hv
    | pred F hF =>
      simp only [ek] at hs
      refine hs K fun v W' hb hv => hK v W' (hJ.grow rfl hi hun hb (fun y hy => by rw [kindAt_val hy] at ek; cases ek) ?_ (fun k => by simp [fillsB, ek]) (fun hbx => by simp [isBoxB, ek] at hbx))
      unfold holdsK; rw [ek]; simpa [upd] using hv
    | temp k F hF =>
      simp only [ek] at hs
      refine hs K fun v W' hb hv => hK v W' (hJ.grow rfl hi hun hb (fun y hy => by rw [kindAt_val hy] at ek; cases ek) ?_ (fun k => by simp [fillsB, ek]) (fun hbx => by simp [isBoxB, ek] at hbx))
      unfold holdsK; rw [ek]; simp only; intro _; simpa [upd] using hv
    | grow F hF =>
      simp only [ek] at hs
      exact hs K fun v W' hb hv => hK v W' (hJ.app hTe rfl hi hun ek (grow_spec hx ek hi).1 (grow_spec hx ek hi).2 hb hv)
    | box z =>
      simp only [ek] at hs
      refine hs K fun v W' hv hW' => hK v W' (hJ.grow rfl hi hun (by rw [hW']; exact (Below.refl _ _).alloc (Nat.le_refl _) _) (fun y hy => by rw [kindAt_val hy] at ek; cases ek) ?_ (fun k => by simp [fillsB, ek]) (fun _ => hv))
      unfold holdsK; rw [ek]
      exact ⟨W.heap.size, by simpa [upd] using hv, hJ.low.size, by rw [hW']; simp, fun _ => by rw [hW']; exact heap_alloc_new _ _⟩
    | put k G hG =>
      simp only [ek] at hs
      obtain ⟨h1, ⟨o2, h2, h3⟩, h4⟩ := boxes_spec hx ek hi
      rw [ho'] at h2
      injection h2 with h2
      subst h2
      have hkd := hdone k h3
      have hbk := hJ.hold k (hin k hkd) hkd
      unfold holdsK at hbk
      rw [isBox_spec h1] at hbk
      obtain ⟨X, hX, hBX, hlt, hz⟩ := hbk
      have hz' := hz fun j hj => by rw [h4 j (by rw [← hlen]; exact fills_lt hj) hj]; exact hun
      exact hs X hX hBX hz' K fun v W' hb hoth hcs hg => hK v W' (hJ.fill rfl hi hun (fun j m hj hf => by
        obtain ⟨G2, hG2, e2⟩ := put_spec hf
        exact (boxes_spec hx e2 hj).1) ek h1 hkd h4 hX hBX hlt hz' hb hoth hcs hg)
  · rintro b us W hJ hall
    simp only [hfill us hJ.known]
    exact hend us W hJ.low (fun j hj => depsHold_of (hJ.hold j hj (hall j (by simpa using hj))) (by simp [hJ.len]))
end
end Go.Proofs.Ytpkdkkbmmkhhhaa
