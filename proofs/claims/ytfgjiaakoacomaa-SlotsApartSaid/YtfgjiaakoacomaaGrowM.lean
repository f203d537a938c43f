/- A region that draws its order: one obligation for each operation serves every order. Each operation may lean on what it waits for alone; what has been shown of one stays true whatever the others do. No program is named here. -/
import Derived.Test.YtfgjiaakoacomaaBase
import Derived.Orders
namespace Go.Proofs.Ytfgjiaakoacomaa
set_option maxRecDepth 20000
open Go.RowKit

/-- Nothing but an ordinary end. -/
def NoQ : Exit → Act → World → Prop := fun _ _ _ => False
theorem letsOut_noQ (h : LetsOut NoQ) {X : Prop} : X := by
  obtain ⟨_, _, h⟩ := h
  exact (h : False).elim

def upd (vs : Nat → Value) (i : Nat) (v : Value) : Nat → Value := fun j => if j = i then v else vs j
/-- The frame in which each operation's value stands in its place. -/
def fillOps : List Oper → Nat → (Nat → Value) → Act → Act
  | [], _, _, a => a
  | o :: l, k, vs, a => fillOps l (k + 1) vs (a.put o.dst (vs k))

theorem put_size (a : Act) (d : Option Tmp) (v : Value) : (a.put d v).tmps.size = a.tmps.size := by cases d <;> simp [Act.put]
theorem put_defers (a : Act) (d : Option Tmp) (v : Value) : (a.put d v).defers = a.defers := by cases d <;> rfl
theorem put_get (a : Act) (d : Option Tmp) (v : Value) (t : Nat) : (a.put d v).tmps[t]? = if d = some t then (if t < a.tmps.size then some v else none) else a.tmps[t]? := by
  cases d with
  | none => simp [Act.put]
  | some d =>
    simp only [Act.put, Array.getElem?_setIfInBounds, Option.some.injEq]
    by_cases h : d = t
    · subst h; simp
    · simp [h]
theorem fill_size (l : List Oper) : ∀ (k : Nat) (vs : Nat → Value) (a : Act), (fillOps l k vs a).tmps.size = a.tmps.size := by
  induction l with
  | nil => intro k vs a; rfl
  | cons o l ih => intro k vs a; rw [fillOps, ih, put_size]
theorem fill_defers (l : List Oper) : ∀ (k : Nat) (vs : Nat → Value) (a : Act), (fillOps l k vs a).defers = a.defers := by
  induction l with
  | nil => intro k vs a; rfl
  | cons o l ih => intro k vs a; rw [fillOps, ih, put_defers]
theorem fill_other (l : List Oper) : ∀ (k : Nat) (vs : Nat → Value) (a : Act) (t : Nat), (∀ (j : Nat) (o : Oper), l[j]? = some o → o.dst ≠ some t) → (fillOps l k vs a).tmps[t]? = a.tmps[t]? := by
  induction l with
  | nil => intro k vs a t _; rfl
  | cons o l ih =>
    intro k vs a t h
    rw [fillOps, ih _ _ _ _ (fun j p hj => h (j + 1) p (by simpa using hj)), put_get, if_neg (h 0 o rfl)]
theorem fill_at (l : List Oper) : ∀ (k : Nat) (vs : Nat → Value) (a : Act) (t i : Nat) (o : Oper), l[i]? = some o → o.dst = some t → (∀ (j : Nat) (p : Oper), l[j]? = some p → j ≠ i → p.dst ≠ some t) →
    (fillOps l k vs a).tmps[t]? = if t < a.tmps.size then some (vs (k + i)) else none := by
  induction l with
  | nil => intro k vs a t i o h; simp at h
  | cons p l ih =>
    intro k vs a t i o hi hd hu
    cases i with
    | zero =>
      obtain rfl : p = o := by simpa using hi
      rw [fillOps, fill_other _ _ _ _ _ (fun j q hj => hu (j + 1) q (by simpa using hj) (by omega)), put_get, if_pos hd]
      rfl
    | succ i =>
      rw [fillOps, ih (k + 1) vs _ t i o (by simpa using hi) hd (fun j q hj hne => hu (j + 1) q (by simpa using hj) (by omega)), put_size, show k + 1 + i = k + (i + 1) by omega]

/-- Each operation waits for what it looks at; each has a place of its own. -/
def wiredB (md : Region.Mode) (ops : Array Oper) : Bool :=
  Region.noSelect ops && (List.range ops.size).all fun i => match ops[i]? with
    | none => true
    | some o => (o.after.toList.all fun e => !Region.binds md e || decide (e.on < i)) &&
      ((List.range ops.size).all fun j => match ops[j]? with
        | none => true
        | some p => (match p.dst with
          | none => true
          | some t => (!(o.looksAt ops).contains t || o.after.toList.any (fun e => Region.binds md e && e.on == j)) && (j == i || o.dst != some t)))

theorem wired_spec {md : Region.Mode} {ops : Array Oper} (h : wiredB md ops = true) :
    (∀ (j : Nat) (o : Oper) cs b, ops[j]? = some o → o.op ≠ .select cs b) ∧
    (∀ (i : Nat) (o : Oper) (e : Edge), ops[i]? = some o → e ∈ o.after → Region.binds md e = true → e.on < i) ∧
    (∀ (i j : Nat) (o p : Oper) (t : Tmp), ops[i]? = some o → ops[j]? = some p → p.dst = some t → t ∈ o.looksAt ops → ∃ e ∈ o.after, Region.binds md e = true ∧ e.on = j) ∧
    (∀ (i j : Nat) (o p : Oper) (t : Tmp), ops[i]? = some o → ops[j]? = some p → p.dst = some t → j ≠ i → o.dst ≠ some t) := by
  simp only [wiredB, Bool.and_eq_true, List.all_eq_true, List.mem_range] at h
  obtain ⟨h1, h2⟩ := h
  have g : ∀ (i : Nat) (o : Oper), ops[i]? = some o → (∀ e ∈ o.after.toList, (!Region.binds md e || decide (e.on < i)) = true) ∧ ∀ j < ops.size, (match ops[j]? with
        | none => true
        | some p => (match p.dst with
          | none => true
          | some t => (!(o.looksAt ops).contains t || o.after.toList.any (fun e => Region.binds md e && e.on == j)) && (j == i || o.dst != some t))) = true := fun i o ho => by
    have := h2 i (Array.getElem?_eq_some_iff.1 ho).1
    simp only [ho, Bool.and_eq_true, List.all_eq_true, List.mem_range] at this
    exact this
  refine ⟨Region.noSelect_spec h1, fun i o e ho he hb => ?_, fun i j o p t ho hp hd ht => ?_, fun i j o p t ho hp hd hne => ?_⟩
  · have := (g i o ho).1 e (by simpa using he)
    simpa [hb] using this
  · have := (g i o ho).2 j (Array.getElem?_eq_some_iff.1 hp).1
    simp only [hp, hd, Bool.and_eq_true, Bool.or_eq_true] at this
    rcases this.1 with h3 | h3
    · exact absurd ht (by simpa using h3)
    · obtain ⟨e, he, hx⟩ := List.any_eq_true.1 h3
      simp only [Bool.and_eq_true, beq_iff_eq] at hx
      exact ⟨e, by simpa using he, hx⟩
  · have := (g i o ho).2 j (Array.getElem?_eq_some_iff.1 hp).1
    simp only [hp, hd, Bool.and_eq_true, Bool.or_eq_true] at this
    rcases this.2 with h3 | h3
    · exact absurd (by simpa using h3) hne
    · simpa using h3

section
variable {P : Program} {ops : Array Oper} {md : Region.Mode} {a0 : Act}

/-- The frame a agrees with the full one wherever it has been written. -/
def Agrees (ops : Array Oper) (a0 : Act) (b : Array Bool) (vs : Nat → Value) (a : Act) : Prop :=
  a.tmps.size = a0.tmps.size ∧ a.defers = a0.defers ∧ ∀ t : Nat, (∀ (j : Nat) (o : Oper), ops[j]? = some o → o.dst = some t → b.getD j false = true) → a.tmps[t]? = (fillOps ops.toList 0 vs a0).tmps[t]?

theorem fill_upd_at (hw : wiredB md ops = true) {i : Nat} {o : Oper} (ho : ops[i]? = some o) (vs : Nat → Value) (v : Value) (t : Nat) :
    (fillOps ops.toList 0 (upd vs i v) a0).tmps[t]? = if o.dst = some t then (if t < a0.tmps.size then some v else none) else (fillOps ops.toList 0 vs a0).tmps[t]? := by
  obtain ⟨_, _, _, hu⟩ := wired_spec hw
  by_cases hd : o.dst = some t
  · rw [if_pos hd, fill_at _ 0 _ _ t i o (by simpa using ho) hd (fun j p hj hne he => hu j i p o t (by simpa using hj) ho hd (Ne.symm hne) he)]
    simp [upd]
  · rw [if_neg hd]
    by_cases hx : ∃ (j : Nat) (p : Oper), ops[j]? = some p ∧ p.dst = some t
    · obtain ⟨j, p, hp, hpd⟩ := hx
      have hji : j ≠ i := fun e => by subst e; rw [hp] at ho; cases ho; exact hd hpd
      have hu' : ∀ (k : Nat) (q : Oper), ops.toList[k]? = some q → k ≠ j → q.dst ≠ some t := fun k q hk hne he => hu k j q p t (by simpa using hk) hp hpd (Ne.symm hne) he
      rw [fill_at _ 0 _ _ t j p (by simpa using hp) hpd hu', fill_at _ 0 _ _ t j p (by simpa using hp) hpd hu']
      simp [upd, hji]
    · have hn : ∀ (j : Nat) (p : Oper), ops.toList[j]? = some p → p.dst ≠ some t := fun j p hj he => hx ⟨j, p, by simpa using hj, he⟩
      rw [fill_other _ 0 _ _ t hn, fill_other _ 0 _ _ t hn]

theorem Agrees.step (hw : wiredB md ops = true) {i : Nat} {o : Oper} (ho : ops[i]? = some o) {b : Array Bool} {vs : Nat → Value} {a : Act} (h : Agrees ops a0 b vs a) (v : Value) :
    Agrees ops a0 (b.setIfInBounds i true) (upd vs i v) (a.put o.dst v) := by
  obtain ⟨h1, h2, h3⟩ := h
  refine ⟨by rw [put_size, h1], by rw [put_defers, h2], fun t ht => ?_⟩
  rw [put_get, fill_upd_at hw ho, h1]
  by_cases hd : o.dst = some t
  · rw [if_pos hd, if_pos hd]
  · rw [if_neg hd, if_neg hd]
    refine h3 t fun j p hp hpd => ?_
    have hji : j ≠ i := fun e => by subst e; rw [hp] at ho; cases ho; exact hd hpd
    have := ht j p hp hpd
    rwa [getD_set_ne false (Ne.symm hji)] at this

theorem Agrees.same (hw : wiredB md ops = true) {i : Nat} {o : Oper} (ho : ops[i]? = some o) {b : Array Bool} {vs : Nat → Value} {a : Act} (h : Agrees ops a0 b vs a)
    (hall : ∀ e ∈ o.after, Region.binds md e = true → b.getD e.on false = true) :
    execOp a.eval o = execOp (fillOps ops.toList 0 vs a0).eval o ∧ Region.wanted o (yielded ops a.tmps) = Region.wanted o (yielded ops (fillOps ops.toList 0 vs a0).tmps) := by
  obtain ⟨hsel, _, hlook, _⟩ := wired_spec hw
  have key : ∀ t : Tmp, t ∈ o.looksAt ops → a.tmps[t]? = (fillOps ops.toList 0 vs a0).tmps[t]? := fun t ht => h.2.2 t fun j p hp hpd => by
    obtain ⟨e, he, hb, rfl⟩ := hlook i j o p t ho hp hpd ht
    exact hall e he hb
  refine ⟨execOp_congr o (fun cs x => hsel i o cs x ho) fun x hx => ?_, ?_⟩
  · cases x with
    | tmp t =>
      have := key t (List.mem_append_left _ (List.mem_filterMap.2 ⟨.tmp t, by simpa using hx, rfl⟩))
      simp only [Act.eval, Array.getD_eq_getD_getElem?, this]
    | _ => rfl
  · unfold Region.wanted
    cases hg : o.guard with
    | none => rfl
    | some gw =>
      obtain ⟨g, want⟩ := gw
      have hy : yielded ops a.tmps g = yielded ops (fillOps ops.toList 0 vs a0).tmps g := by
        unfold yielded
        cases ht : (ops[g]?).bind (·.dst) with
        | none => rfl
        | some t =>
          have := key t (by simp [Oper.looksAt, hg, ht])
          simp only [Option.bind_some, this]
      simp only [hy]

theorem wp_move {o : Oper} {a b : Act} {w : World} {K' : Act → World → Prop} {Q : Exit → Act → World → Prop} {G : Value → World → Prop} (hsz : a.tmps.size = b.tmps.size)
    (he : execOp a.eval o = execOp b.eval o) (h : o.wp P b w (fun b' w' => ∃ v, b' = b.put o.dst v ∧ G v w') NoQ) (hK : ∀ v w', G v w' → K' (a.put o.dst v) w') : o.wp P a w K' Q := by
  have hv : ∀ (u : Value) (w' : World), (∃ v, b.put o.dst u = b.put o.dst v ∧ G v w') → K' (a.put o.dst u) w' := by
    rintro u w' ⟨v, hb, hG⟩
    have : a.put o.dst u = a.put o.dst v := by
      cases hd : o.dst with
      | none => rfl
      | some d =>
        rw [hd] at hb
        by_cases hlt : d < b.tmps.size
        · have h1 : (b.put (some d) u).tmps[d]? = (b.put (some d) v).tmps[d]? := by rw [hb]
          rw [put_get, put_get] at h1
          simp [hlt] at h1
          rw [h1]
        · have hlt' : ¬ d < a.tmps.size := by rw [hsz]; exact hlt
          simp only [Act.put]
          rw [Array.setIfInBounds_eq_of_size_le (Nat.le_of_not_lt hlt'), Array.setIfInBounds_eq_of_size_le (Nat.le_of_not_lt hlt')]
    rw [this]
    exact hK v w' hG
  unfold Oper.wp at *
  rw [he]
  generalize (execOp b.eval o).run P w = r at *
  cases r with
  | ok n w' =>
    cases n <;> simp only [Oper.upon] at h ⊢
    case value u => exact hv u w' h
    case skip => exact hv undef w' h
    case defer d =>
      obtain ⟨v, hb, _⟩ := h
      have := congrArg (fun x : Act => x.defers.length) hb
      simp only [put_defers, List.length_cons] at this
      omega
    case enter f args =>
      refine Calls.mono h fun e w'' he => ?_
      cases e with
      | returned u => exact hv u w'' he
      | panicked c => exact (he : False).elim
      | outgrown => exact letsOut_noQ he
    case row row args => exact Rows.mono h fun u w'' he => hv u w'' he
  | halt x w' =>
    cases x <;> simp only [Oper.upon] at h ⊢
    case panic u => exact (h : False).elim

/-- How many have not come up. -/
def waits (b : Array Bool) : Nat := b.toList.count false

theorem waits_set {b : Array Bool} {i : Nat} (hi : i < b.size) (h : b.getD i true = false) : waits (b.setIfInBounds i true) + 1 = waits b := by
  unfold waits
  have hi' : i < b.toList.length := by simpa using hi
  have hb : b.toList[i] = false := by simpa [hi] using h
  have hc : 0 < b.toList.count false := List.count_pos_iff.2 (by rw [← hb]; exact List.getElem_mem hi')
  rw [Array.toList_setIfInBounds, List.count_set (by simpa using hi)]
  rw [hb]
  rw [if_pos (by rfl), if_neg (by decide)]
  omega

theorem wpAny_inv {Q : Exit → Act → World → Prop} (hw : wiredB md ops = true) (J : Array Bool → (Nat → Value) → World → Prop)
    (hstep : ∀ (i : Nat) (o : Oper) (b : Array Bool) (vs : Nat → Value) (w : World), ops[i]? = some o → J b vs w → b.getD i true = false → (∀ e ∈ o.after, Region.binds md e = true → b.getD e.on false = true) →
      ∀ K : Act → World → Prop, (∀ v w', J (b.setIfInBounds i true) (upd vs i v) w' → K ((fillOps ops.toList 0 vs a0).put o.dst v) w') →
      if Region.wanted o (yielded ops (fillOps ops.toList 0 vs a0).tmps) then o.wp P (fillOps ops.toList 0 vs a0) w K NoQ else K ((fillOps ops.toList 0 vs a0).put o.dst undef) w)
    (hend : ∀ b vs w, J b vs w → (∀ i < ops.size, b.getD i false = true) → Q .normal (fillOps ops.toList 0 vs a0) w) :
    ∀ (fuel : Nat) (b : Array Bool) (vs : Nat → Value) (a : Act) (w : World), b.size = ops.size → waits b = fuel → Agrees ops a0 b vs a → J b vs w → wpAny P md ops Q fuel b a w := by
  obtain ⟨_, hlt, _, _⟩ := wired_spec hw
  have done : ∀ (b : Array Bool) (vs : Nat → Value) (a : Act) (w : World), b.size = ops.size → Region.ready md ops b = [] → Agrees ops a0 b vs a → J b vs w → Q .normal a w := by
    intro b vs a w hsz hr hA hJ
    have hall : ∀ n i, i < n → i < ops.size → b.getD i false = true := by
      intro n
      induction n with
      | zero => intro i hi; omega
      | succ n ih =>
        intro i hi hs
        cases hb : b.getD i false with
        | true => rfl
        | false =>
          have hin : i ∈ Region.ready md ops b := mem_ready.2 ⟨by
            have : i < b.size := by omega
            simp [this] at hb ⊢; exact hb, ops[i], by simp [hs], fun e he hbd => by
              have := hlt i ops[i] e (by simp [hs]) he hbd
              exact ih e.on (by omega) (by omega)⟩
          rw [hr] at hin
          cases hin
    have h1 := hend b vs w hJ (fun i hi => hall (i + 1) i (by omega) hi)
    have h2 : a = fillOps ops.toList 0 vs a0 := by
      obtain ⟨t1, d1⟩ := a
      obtain ⟨s, hd, ht⟩ := hA
      have e1 : t1 = (fillOps ops.toList 0 vs a0).tmps := Array.ext_getElem? fun t => ht t fun j o ho _ => hall (j + 1) j (by omega) (Array.getElem?_eq_some_iff.1 ho).1
      have e2 : d1 = (fillOps ops.toList 0 vs a0).defers := by rw [fill_defers]; exact hd
      rw [e1, e2]
    rw [h2]
    exact h1
  intro fuel
  induction fuel with
  | zero =>
    intro b vs a w hsz hn hA hJ
    have hr : Region.ready md ops b = [] := by
      rw [List.eq_nil_iff_forall_not_mem]
      intro i hi
      obtain ⟨hun, o, ho, _⟩ := mem_ready.1 hi
      have := waits_set (i := i) (by rw [hsz]; exact (Array.getElem?_eq_some_iff.1 ho).1) hun
      omega
    exact ⟨hr, done b vs a w hsz hr hA hJ⟩
  | succ fuel ih =>
    intro b vs a w hsz hn hA hJ
    refine ⟨fun hr => done b vs a w hsz hr hA hJ, fun i hi => ?_⟩
    obtain ⟨hun, o, ho, hall⟩ := mem_ready.1 hi
    have his : i < b.size := by rw [hsz]; exact (Array.getElem?_eq_some_iff.1 ho).1
    have hwt := waits_set his hun
    obtain ⟨he, hwd⟩ := hA.same hw ho hall
    have hK : ∀ v w', J (b.setIfInBounds i true) (upd vs i v) w' → wpAny P md ops Q fuel (b.setIfInBounds i true) (a.put o.dst v) w' := fun v w' hj =>
      ih _ (upd vs i v) _ _ (by simpa using hsz) (by omega) (hA.step hw ho v) hj
    have := hstep i o b vs w ho hJ hun hall (fun b' w' => ∃ v, b' = (fillOps ops.toList 0 vs a0).put o.dst v ∧ J (b.setIfInBounds i true) (upd vs i v) w') (fun v w' hj => ⟨v, rfl, hj⟩)
    unfold wpOp
    simp only [ho]
    rw [hwd]
    by_cases hx : Region.wanted o (yielded ops (fillOps ops.toList 0 vs a0).tmps) = true
    · rw [if_pos hx] at this ⊢
      exact .inl (wp_move (by rw [hA.1, fill_size]) he this hK)
    · rw [if_neg hx] at this ⊢
      obtain ⟨v, hb, hj⟩ := this
      have hv := hK v w hj
      have : a.put o.dst undef = a.put o.dst v := by
        cases hd : o.dst with
        | none => rfl
        | some d =>
          rw [hd] at hb
          have hsz2 : (fillOps ops.toList 0 vs a0).tmps.size = a.tmps.size := by rw [hA.1, fill_size]
          by_cases hlt : d < a.tmps.size
          · have h1 : ((fillOps ops.toList 0 vs a0).put (some d) undef).tmps[d]? = ((fillOps ops.toList 0 vs a0).put (some d) v).tmps[d]? := by rw [hb]
            rw [put_get, put_get] at h1
            rw [if_pos rfl, if_pos rfl, hsz2, if_pos hlt, if_pos hlt] at h1
            injection h1 with h1
            rw [h1]
          · simp only [Act.put]
            rw [Array.setIfInBounds_eq_of_size_le (Nat.le_of_not_lt hlt), Array.setIfInBounds_eq_of_size_le (Nat.le_of_not_lt hlt)]
      rw [this]
      exact hv

/-- One obligation an operation: a region that draws its order, by an invariant. -/
theorem wp_region_inv {id : Nat} {Q : Exit → Act → World → Prop} {w : World} (hm : P.follows .mixedOrders = true) (hw : wiredB .any ops = true) (J : Array Bool → (Nat → Value) → World → Prop) (vs0 : Nat → Value)
    (h0 : J (Array.replicate ops.size false) vs0 { w with drawn := w.drawn + 1 })
    (hstep : ∀ (i : Nat) (o : Oper) (b : Array Bool) (vs : Nat → Value) (w : World), ops[i]? = some o → J b vs w → b.getD i true = false → (∀ e ∈ o.after, Region.binds .any e = true → b.getD e.on false = true) →
      ∀ K : Act → World → Prop, (∀ v w', J (b.setIfInBounds i true) (upd vs i v) w' → K ((fillOps ops.toList 0 vs a0).put o.dst v) w') →
      if Region.wanted o (yielded ops (fillOps ops.toList 0 vs a0).tmps) then o.wp P (fillOps ops.toList 0 vs a0) w K NoQ else K ((fillOps ops.toList 0 vs a0).put o.dst undef) w)
    (hend : ∀ b vs w, J b vs w → (∀ i < ops.size, b.getD i false = true) → Q .normal (fillOps ops.toList 0 vs a0) w) : (Code.region id ops true).wp P Q a0 w := by
  refine wp_region_any hm (wpAny_inv hw J hstep hend ops.size _ vs0 a0 _ (by simp) (by simp [waits]) ⟨rfl, rfl, fun t ht => ?_⟩ h0)
  rw [fill_other]
  intro j o ho hd
  have := ht j o (by simpa using ho) hd
  by_cases hj : j < ops.size <;> simp [hj] at this
end

/-! Operations that read, or make new memory. -/
/-- What is known of an operation's value: which one it is, or something that stays true whatever memory is made. -/
inductive Fact where
  | val (v : Value)
  | pred (F : Value → World → Prop) (h : ∀ v w w', F v w → Below w.heap.size w w' → F v w')
def Fact.holds : Fact → Value → World → Prop
  | .val x, v, _ => v = x
  | .pred F _, v, w => F v w
def Fact.any : Fact := .pred (fun _ _ => True) fun _ _ _ _ _ => trivial
theorem Fact.keep {f : Fact} {v : Value} {w w' : World} (h : f.holds v w) (hb : Below w.heap.size w w') : f.holds v w' := by
  cases f with
  | val x => exact h
  | pred F hF => exact hF v w w' h hb
def depsOf (o : Oper) : List Nat := (o.after.toList.filter (Region.binds .any)).map (·.on)
def factAt (Fs : List Fact) (j : Nat) : Fact := Fs.getD j .any
/-- The frame in which the known values stand, and the others as us tells. -/
def fillF : List Oper → List Fact → Nat → (Nat → Value) → Act → Act
  | o :: l, .val x :: Fs, k, us, a => fillF l Fs (k + 1) us (a.put o.dst x)
  | o :: l, .pred _ _ :: Fs, k, us, a => fillF l Fs (k + 1) us (a.put o.dst (us k))
  | o :: l, [], k, us, a => fillF l [] (k + 1) us (a.put o.dst (us k))
  | [], _, _, _, a => a
/-- The known values stand in us. -/
def Known (Fs : List Fact) (us : Nat → Value) : Prop := ∀ i x, Fs[i]? = some (.val x) → us i = x
theorem fillF_eq : ∀ (l : List Oper) (Fs : List Fact) (k : Nat) (us : Nat → Value) (a : Act), (∀ i x, Fs[i]? = some (.val x) → us (k + i) = x) → fillOps l k us a = fillF l Fs k us a
  | [], _, _, _, _, _ => by simp [fillOps, fillF]
  | o :: l, [], k, us, a, h => by
    rw [fillOps, fillF]
    exact fillF_eq l [] (k + 1) us _ fun i x hi => by simp at hi
  | o :: l, .val x :: Fs, k, us, a, h => by
    rw [fillOps, fillF, show us k = x from h 0 x rfl]
    exact fillF_eq l Fs (k + 1) us _ fun i y hi => by rw [show k + 1 + i = k + (i + 1) by omega]; exact h (i + 1) y (by simpa using hi)
  | o :: l, .pred F hF :: Fs, k, us, a, h => by
    rw [fillOps, fillF]
    exact fillF_eq l Fs (k + 1) us _ fun i y hi => by rw [show k + 1 + i = k + (i + 1) by omega]; exact h (i + 1) y (by simpa using hi)
theorem Known.upd {Fs : List Fact} {us : Nat → Value} (h : Known Fs us) {i : Nat} {v : Value} {w : World} (hv : (factAt Fs i).holds v w) : Known Fs (upd us i v) := by
  intro j x hj
  by_cases e : j = i
  · subst e
    simp only [factAt, List.getD, hj, Option.getD_some, Fact.holds] at hv
    simpa [Go.Proofs.Ytfgjiaakoacomaa.upd] using hv
  · simpa [Go.Proofs.Ytfgjiaakoacomaa.upd, e] using h j x hj
def knownOf (Fs : List Fact) : Nat → Value := fun i => match Fs[i]? with
  | some (.val x) => x
  | _ => undef
theorem known_of (Fs : List Fact) : Known Fs (knownOf Fs) := fun i x h => by simp [knownOf, h]

def GrowSteps (P : Program) (ops : Array Oper) (base : World) (A : (Nat → Value) → Act) (Fs : List Fact) : List Oper → List Fact → Prop
  | [], _ => True
  | _ :: _, [] => False
  | o :: l, F :: Gs => (∀ us W, Below base.heap.size base W → (∀ j, (depsOf o).contains j = true → (factAt Fs j).holds (us j) W) → ∀ K : Act → World → Prop, (∀ v W', Below W.heap.size W W' → F.holds v W' → K ((A us).put o.dst v) W') →
      if Region.wanted o (yielded ops (A us).tmps) then o.wp P (A us) W K NoQ else K ((A us).put o.dst undef) W) ∧ GrowSteps P ops base A Fs l Gs

theorem growSteps_at {P : Program} {ops : Array Oper} {base : World} {A : (Nat → Value) → Act} {Fs : List Fact} : ∀ (l : List Oper) (Gs : List Fact) (i : Nat) (o : Oper),
    GrowSteps P ops base A Fs l Gs → l[i]? = some o → (∀ us W, Below base.heap.size base W → (∀ j, (depsOf o).contains j = true → (factAt Fs j).holds (us j) W) → ∀ K : Act → World → Prop, (∀ v W', Below W.heap.size W W' → (factAt Gs i).holds v W' → K ((A us).put o.dst v) W') →
      if Region.wanted o (yielded ops (A us).tmps) then o.wp P (A us) W K NoQ else K ((A us).put o.dst undef) W)
  | [], _, i, o, _, h => by simp at h
  | p :: l, [], i, o, hg, _ => (hg : False).elim
  | p :: l, F :: Gs, 0, o, hg, h => by
    obtain rfl : p = o := by simpa using h
    exact hg.1
  | p :: l, F :: Gs, i + 1, o, hg, h => by
    have := growSteps_at l Gs i o hg.2 (by simpa using h)
    simpa [factAt] using this

/-- **A region that draws its order and whose operations read, or make new memory: one obligation an operation.** Fs: what is known of each operation's value. -/
theorem wp_region_grow {P : Program} {id : Nat} {Q : Exit → Act → World → Prop} {a : Act} {w : World} {l : List Oper} (Fs : List Fact) {A : (Nat → Value) → Act}
    (hA : ∀ us (X : Act → Prop), X (A us) → X (fillF l Fs 0 us a)) (hm : P.follows .mixedOrders = true) (hw : wiredB .any l.toArray = true)
    (h : GrowSteps P l.toArray w A Fs l Fs)
    (hend : ∀ us W, Below w.heap.size w W → (∀ j, j < l.length → (factAt Fs j).holds (us j) W) → Q .normal (A us) W) : (Code.region id l.toArray true).wp P Q a w := by
  have hfill : ∀ us, Known Fs us → fillOps l 0 us a = A us := fun us hk => by rw [fillF_eq l Fs 0 us a (fun i x hi => by rw [Nat.zero_add]; exact hk i x hi)]; exact hA us (fun b => b = A us) rfl
  refine wp_region_inv hm hw (fun b us W => Known Fs us ∧ Below w.heap.size w W ∧ ∀ i, b.getD i false = true → (factAt Fs i).holds (us i) W) (knownOf Fs) ⟨known_of Fs, (Below.refl _ _).drew, fun i hi => ?_⟩ ?_ ?_
  · by_cases hlt : i < l.length <;> simp [hlt] at hi
  · rintro i o b us W ho ⟨hk, hB, hF⟩ hun hall K hK
    simp only [hfill us hk] at hK ⊢
    refine growSteps_at l Fs i o h (by simpa using ho) us W hB (fun j hj => ?_) K fun v W' hb hf => hK v W' ⟨hk.upd hf, hB.trans (hb.mono hB.size), fun j hj => ?_⟩
    · obtain ⟨e, he, rfl⟩ := List.mem_map.1 (List.contains_iff_mem.1 hj)
      obtain ⟨h1, h2⟩ := List.mem_filter.1 he
      exact hF e.on (hall e (by simpa using h1) h2)
    · by_cases e : j = i
      · subst e; simpa [upd] using hf
      · rw [getD_set_ne false (Ne.symm e)] at hj
        have := Fact.keep (hF j hj) hb
        simpa [upd, e] using this
  · rintro b us W ⟨hk, hB, hF⟩ hall
    simp only [hfill us hk]
    exact hend us W hB (fun j hj => hF j (hall j (by simpa using hj)))

/-! A region whose operations that write or make memory stand in one chain; the others read. -/
inductive Tie where
  | val (v : Value)
  | link (G : Value → World → Prop)
def tieAt (Fs : List Tie) (j : Nat) : Tie := Fs.getD j (.link fun _ _ => True)
def fillT : List Oper → List Tie → Nat → (Nat → Value) → Act → Act
  | o :: l, .val x :: Fs, k, us, a => fillT l Fs (k + 1) us (a.put o.dst x)
  | o :: l, .link _ :: Fs, k, us, a => fillT l Fs (k + 1) us (a.put o.dst (us k))
  | o :: l, [], k, us, a => fillT l [] (k + 1) us (a.put o.dst (us k))
  | [], _, _, _, a => a
def KnownT (Fs : List Tie) (us : Nat → Value) : Prop := ∀ i x, Fs[i]? = some (.val x) → us i = x
theorem fillT_eq : ∀ (l : List Oper) (Fs : List Tie) (k : Nat) (us : Nat → Value) (a : Act), (∀ i x, Fs[i]? = some (.val x) → us (k + i) = x) → fillOps l k us a = fillT l Fs k us a
  | [], _, _, _, _, _ => by simp [fillOps, fillT]
  | o :: l, [], k, us, a, h => by
    rw [fillOps, fillT]
    exact fillT_eq l [] (k + 1) us _ fun i x hi => by simp at hi
  | o :: l, .val x :: Fs, k, us, a, h => by
    rw [fillOps, fillT, show us k = x from h 0 x rfl]
    exact fillT_eq l Fs (k + 1) us _ fun i y hi => by rw [show k + 1 + i = k + (i + 1) by omega]; exact h (i + 1) y (by simpa using hi)
  | o :: l, .link G :: Fs, k, us, a, h => by
    rw [fillOps, fillT]
    exact fillT_eq l Fs (k + 1) us _ fun i y hi => by rw [show k + 1 + i = k + (i + 1) by omega]; exact h (i + 1) y (by simpa using hi)
def knownT (Fs : List Tie) : Nat → Value := fun i => match Fs[i]? with
  | some (.val x) => x
  | _ => undef
theorem known_t (Fs : List Tie) : KnownT Fs (knownT Fs) := fun i x h => by simp [knownT, h]
theorem KnownT.upd {Fs : List Tie} {us : Nat → Value} (h : KnownT Fs us) {i : Nat} {v : Value} (hv : ∀ x, Fs[i]? = some (.val x) → v = x) : KnownT Fs (upd us i v) := by
  intro j x hj
  by_cases e : j = i
  · subst e
    simpa [Go.Proofs.Ytfgjiaakoacomaa.upd] using hv x hj
  · simpa [Go.Proofs.Ytfgjiaakoacomaa.upd, e] using h j x hj
/-- Where the chain stands behind s of its links. -/
def stageOf (Fs : List Tie) (links : List Nat) (S0 : World → Prop) (us : Nat → Value) (w : World) : Nat → Prop
  | 0 => S0 w
  | s + 1 => match tieAt Fs (links.getD s 0) with
    | .val _ => False
    | .link G => G (us (links.getD s 0)) w

/-- What an operation waits for, through others too. -/
def anc (ops : List Oper) : Nat → List Nat → List Nat
  | 0, S => S
  | k + 1, S => anc ops k (if S.contains k then (match ops[k]? with
    | some o => depsOf o ++ S
    | none => S) else S)
/-- How many links may have come up while operation i has not. -/
def boundOf (ops : List Oper) (links : List Nat) (i : Nat) : Nat := links.findIdx fun c => (anc ops (c + 1) [c]).contains i

def ChainSteps (P : Program) (l0 : List Oper) (R S0 : World → Prop) (A : (Nat → Value) → Act) (Fs : List Tie) (links : List Nat) : List Oper → List Tie → Nat → Nat → Prop
  | [], _, _, _ => True
  | _ :: _, [], _, _ => False
  | o :: l, .val x :: Gs, s, i => (∀ us W s', R W → s' ≤ boundOf l0 links i → stageOf Fs links S0 us W s' → ∀ K : Act → World → Prop, (∀ v, v = x → K ((A us).put o.dst v) W) →
      if Region.wanted o (yielded l0.toArray (A us).tmps) then o.wp P (A us) W K NoQ else K ((A us).put o.dst undef) W) ∧ ChainSteps P l0 R S0 A Fs links l Gs s (i + 1)
  | o :: l, .link G :: Gs, s, i => (∀ us W, R W → stageOf Fs links S0 us W s → ∀ K : Act → World → Prop, (∀ v W', R W' → G v W' → K ((A us).put o.dst v) W') →
      if Region.wanted o (yielded l0.toArray (A us).tmps) then o.wp P (A us) W K NoQ else K ((A us).put o.dst undef) W) ∧ ChainSteps P l0 R S0 A Fs links l Gs (s + 1) (i + 1)

/-- The chain's links as they stand in the list, each waiting for the one ahead of it. -/
def linksOf : List Tie → Nat → List Nat
  | [], _ => []
  | .val _ :: l, k => linksOf l (k + 1)
  | .link _ :: l, k => k :: linksOf l (k + 1)
def chainedB (ops : List Oper) : List Nat → Bool
  | a :: b :: l => (anc ops (b + 1) [b]).contains a && chainedB ops (b :: l)
  | _ => true
theorem anc_listed {ops : List Oper} {L : Nat → Prop} {i : Nat} (hc : ∀ k o, ops[k]? = some o → (k = i ∨ L k) → ∀ j, (depsOf o).contains j = true → L j) : ∀ (k : Nat) (S : List Nat), (∀ s ∈ S, s = i ∨ L s) → ∀ s ∈ anc ops k S, s = i ∨ L s
  | 0, S, h => h
  | k + 1, S, h => by
    rw [anc]
    refine anc_listed hc k _ ?_
    split
    · rename_i hk
      cases ho : ops[k]? with
      | none => exact h
      | some o =>
        intro s hs
        rcases List.mem_append.1 hs with hs | hs
        · exact .inr (hc k o ho (h k (List.contains_iff_mem.1 hk)) s (List.contains_iff_mem.2 hs))
        · exact h s hs
    · exact h

theorem linksOf_spec : ∀ (Fs : List Tie) (k : Nat), (∀ i ∈ linksOf Fs k, k ≤ i) ∧ (linksOf Fs k).Pairwise (· < ·) ∧ (∀ i, k ≤ i → i - k < Fs.length → (i ∈ linksOf Fs k ↔ ∃ G, Fs[i - k]? = some (.link G)))
  | [], k => ⟨by simp [linksOf], by simp [linksOf], by simp [linksOf]⟩
  | .val x :: l, k => by
    obtain ⟨h1, h2, h3⟩ := linksOf_spec l (k + 1)
    refine ⟨fun i hi => by have := h1 i hi; omega, h2, fun i hk hlt => ?_⟩
    simp only [linksOf]
    rcases Nat.lt_or_ge k i with h | h
    · rw [h3 i h (by simp at hlt; omega), show i - k = (i - (k + 1)) + 1 by omega, List.getElem?_cons_succ]
    · obtain rfl : i = k := by omega
      simp only [Nat.sub_self, List.getElem?_cons_zero, Option.some.injEq]
      exact ⟨fun hi => by have := h1 i hi; omega, fun ⟨G, hG⟩ => (by cases hG)⟩
  | .link G :: l, k => by
    obtain ⟨h1, h2, h3⟩ := linksOf_spec l (k + 1)
    refine ⟨fun i hi => ?_, List.pairwise_cons.2 ⟨fun i hi => h1 i hi, h2⟩, fun i hk hlt => ?_⟩
    · rcases List.mem_cons.1 hi with rfl | hi
      · exact Nat.le_refl _
      · have := h1 i hi; omega
    · simp only [linksOf]
      rcases Nat.lt_or_ge k i with h | h
      · rw [List.mem_cons, h3 i h (by simp at hlt; omega), show i - k = (i - (k + 1)) + 1 by omega, List.getElem?_cons_succ]
        exact ⟨fun h' => h'.resolve_left (by omega), .inr⟩
      · obtain rfl : i = k := by omega
        simp

theorem chained_at {ops : List Oper} : ∀ {l : List Nat} {k : Nat} {a b : Nat}, chainedB ops l = true → l[k]? = some a → l[k + 1]? = some b → a ∈ anc ops (b + 1) [b]
  | [], k, a, b, _, h, _ => by simp at h
  | [x], k, a, b, _, _, h => by simp at h
  | x :: y :: l, 0, a, b, hc, h1, h2 => by
    simp only [chainedB, Bool.and_eq_true] at hc
    obtain rfl : x = a := by simpa using h1
    obtain rfl : y = b := by simpa using h2
    exact List.contains_iff_mem.1 hc.1
  | x :: y :: l, k + 1, a, b, hc, h1, h2 => by
    simp only [chainedB, Bool.and_eq_true] at hc
    exact chained_at (l := y :: l) (k := k) hc.2 (by simpa using h1) (by simpa using h2)

theorem chainSteps_val {P : Program} {l0 : List Oper} {R S0 : World → Prop} {A : (Nat → Value) → Act} {Fs : List Tie} {links : List Nat} : ∀ (l : List Oper) (Gs : List Tie) (s m i : Nat) (o : Oper) (x : Value),
    ChainSteps P l0 R S0 A Fs links l Gs s m → l[i]? = some o → Gs[i]? = some (.val x) → (∀ us W s', R W → s' ≤ boundOf l0 links (m + i) → stageOf Fs links S0 us W s' → ∀ K : Act → World → Prop, (∀ v, v = x → K ((A us).put o.dst v) W) →
      if Region.wanted o (yielded l0.toArray (A us).tmps) then o.wp P (A us) W K NoQ else K ((A us).put o.dst undef) W)
  | [], _, s, m, i, o, x, _, h, _ => by simp at h
  | p :: l, [], s, m, i, o, x, hg, _, _ => (hg : False).elim
  | p :: l, .val y :: Gs, s, m, 0, o, x, hg, h, hx => by
    obtain rfl : p = o := by simpa using h
    obtain rfl : y = x := by simpa using hx
    exact hg.1
  | p :: l, .link G :: Gs, s, m, 0, o, x, hg, h, hx => by simp at hx
  | p :: l, .val y :: Gs, s, m, i + 1, o, x, hg, h, hx => by
    have := chainSteps_val l Gs s (m + 1) i o x hg.2 (by simpa using h) (by simpa using hx)
    rwa [show m + 1 + i = m + (i + 1) by omega] at this
  | p :: l, .link G :: Gs, s, m, i + 1, o, x, hg, h, hx => by
    have := chainSteps_val l Gs (s + 1) (m + 1) i o x hg.2 (by simpa using h) (by simpa using hx)
    rwa [show m + 1 + i = m + (i + 1) by omega] at this

theorem chainSteps_link {P : Program} {l0 : List Oper} {R S0 : World → Prop} {A : (Nat → Value) → Act} {Fs : List Tie} {links : List Nat} : ∀ (l : List Oper) (Gs : List Tie) (s i k m : Nat) (o : Oper) (G : Value → World → Prop),
    ChainSteps P l0 R S0 A Fs links l Gs s m → l[i]? = some o → Gs[i]? = some (.link G) → (linksOf Gs m)[k]? = some (m + i) → (∀ us W, R W → stageOf Fs links S0 us W (s + k) → ∀ K : Act → World → Prop, (∀ v W', R W' → G v W' → K ((A us).put o.dst v) W') →
      if Region.wanted o (yielded l0.toArray (A us).tmps) then o.wp P (A us) W K NoQ else K ((A us).put o.dst undef) W)
  | [], _, s, i, k, m, o, G, _, h, _, _ => by simp at h
  | p :: l, [], s, i, k, m, o, G, hg, _, _, _ => (hg : False).elim
  | p :: l, .val y :: Gs, s, 0, k, m, o, G, hg, h, hx, _ => by simp at hx
  | p :: l, .link H :: Gs, s, 0, k, m, o, G, hg, h, hx, hk => by
    obtain rfl : p = o := by simpa using h
    obtain rfl : H = G := by simpa using hx
    have : k = 0 := by
      cases k with
      | zero => rfl
      | succ k =>
        simp only [linksOf, List.getElem?_cons_succ, Nat.add_zero] at hk
        have := (linksOf_spec Gs (m + 1)).1 m (List.mem_of_getElem? hk)
        omega
    subst this
    exact hg.1
  | p :: l, .val y :: Gs, s, i + 1, k, m, o, G, hg, h, hx, hk => by
    exact chainSteps_link l Gs s i k (m + 1) o G hg.2 (by simpa using h) (by simpa using hx) (by simpa [linksOf, Nat.add_assoc, Nat.add_comm 1 i] using hk)
  | p :: l, .link H :: Gs, s, i + 1, k, m, o, G, hg, h, hx, hk => by
    cases k with
    | zero => simp [linksOf] at hk
    | succ k =>
      have := chainSteps_link l Gs (s + 1) i k (m + 1) o G hg.2 (by simpa using h) (by simpa using hx) (by simpa [linksOf, Nat.add_assoc, Nat.add_comm 1 i] using hk)
      rwa [show s + 1 + k = s + (k + 1) by omega] at this

/-- **A region that draws its order, whose operations that write stand in one chain:** one obligation an operation. R: what holds of every world on the way. -/
theorem wp_region_chain {P : Program} {id : Nat} {Q : Exit → Act → World → Prop} {a : Act} {w : World} {l : List Oper} (R S0 : World → Prop) (Fs : List Tie) {A : (Nat → Value) → Act}
    (hA : ∀ us (X : Act → Prop), X (A us) → X (fillT l Fs 0 us a)) (hm : P.follows .mixedOrders = true) (hw : wiredB .any l.toArray = true) (hlen : Fs.length = l.length) (hc : chainedB l (linksOf Fs 0) = true)
    (hR : R w.drew) (hS : S0 w.drew) (h : ChainSteps P l R S0 A Fs (linksOf Fs 0) l Fs 0 0)
    (hend : ∀ us W, R W → stageOf Fs (linksOf Fs 0) S0 us W (linksOf Fs 0).length → Q .normal (A us) W) : (Code.region id l.toArray true).wp P Q a w := by
  obtain ⟨_, hpw, hmem⟩ := linksOf_spec Fs 0
  have hinj : ∀ (k j c : Nat), (linksOf Fs 0)[k]? = some c → (linksOf Fs 0)[j]? = some c → k = j := by
    intro k j c h1 h2
    obtain ⟨hk, e1⟩ := List.getElem?_eq_some_iff.1 h1
    obtain ⟨hj, e2⟩ := List.getElem?_eq_some_iff.1 h2
    have hp := List.pairwise_iff_getElem.1 hpw
    rcases Nat.lt_trichotomy k j with h | h | h
    · have := hp k j hk hj h; omega
    · exact h
    · have := hp j k hj hk h; omega
  have hfill : ∀ us, KnownT Fs us → fillOps l 0 us a = A us := fun us hk => by rw [fillT_eq l Fs 0 us a (fun i x hi => by rw [Nat.zero_add]; exact hk i x hi)]; exact hA us (fun b => b = A us) rfl
  refine wp_region_inv hm hw (fun b vs W => R W ∧ KnownT Fs vs ∧ (∀ k o, l[k]? = some o → b.getD k false = true → ∀ j, (depsOf o).contains j = true → b.getD j false = true) ∧ ∃ s, (∀ k c, (linksOf Fs 0)[k]? = some c → (b.getD c false = true ↔ k < s)) ∧ s ≤ (linksOf Fs 0).length ∧ stageOf Fs (linksOf Fs 0) S0 vs W s) (knownT Fs) ⟨hR, known_t Fs, fun k o ho hk => ?_, 0, fun k c hkc => ?_, Nat.zero_le _, hS⟩ ?_ ?_
  · by_cases hlt : k < l.length <;> simp [hlt] at hk
  · by_cases hlt : c < l.length <;> simp [hlt]
  · rintro i o b vs W ho ⟨hRW, hF, hcl, s, hs, hsl, hst⟩ hun hall K hK
    simp only [hfill vs hF] at hK ⊢
    have hol : l[i]? = some o := by simpa using ho
    have hil : i < l.length := (List.getElem?_eq_some_iff.1 hol).1
    have hib : i < b.size ∨ ¬ i < b.size := (Nat.lt_or_ge i b.size).imp (fun h => h) (fun h => by omega)
    have hbi : b.getD i false = false := by
      rcases hib with h' | h'
      · simp [h'] at hun ⊢; exact hun
      · simp [h'] at hun
    have hsz : i < b.size := by
      rcases hib with h' | h'
      · exact h'
      · simp [h'] at hun
    have hset : (b.setIfInBounds i true).getD i false = true := by simp [hsz]
    have hdep : ∀ j, (depsOf o).contains j = true → b.getD j false = true := fun j hj => by
      obtain ⟨e, he, rfl⟩ := List.mem_map.1 (List.contains_iff_mem.1 hj)
      obtain ⟨h1, h2⟩ := List.mem_filter.1 he
      exact hall e (by simpa using h1) h2
    have hcl' : ∀ k p, l[k]? = some p → (b.setIfInBounds i true).getD k false = true → ∀ j, (depsOf p).contains j = true → (b.setIfInBounds i true).getD j false = true := fun k p hp hk j hj => by
      by_cases e : k = i
      · subst e
        rw [hol] at hp
        cases hp
        exact getD_set_true (hdep j hj)
      · rw [getD_set_ne false (Ne.symm e)] at hk
        exact getD_set_true (hcl k p hp hk j hj)
    cases hfi : Fs[i]? with
    | none => rw [List.getElem?_eq_none_iff] at hfi; omega
    | some f =>
      cases f with
      | val x =>
        have hni : ∀ (k c : Nat), (linksOf Fs 0)[k]? = some c → c ≠ i := fun k c hkc e => by
          subst e
          obtain ⟨G, hG⟩ := (hmem c (Nat.zero_le _) (by omega)).1 (List.mem_of_getElem? hkc)
          rw [Nat.sub_zero, hfi] at hG
          cases hG
        have hsb : s ≤ boundOf l (linksOf Fs 0) i := by
          rcases Nat.lt_or_ge (boundOf l (linksOf Fs 0) i) s with hlt | hge
          · have hbl : boundOf l (linksOf Fs 0) i < (linksOf Fs 0).length := by omega
            have hk : (linksOf Fs 0)[boundOf l (linksOf Fs 0) i]? = some ((linksOf Fs 0)[boundOf l (linksOf Fs 0) i]) := List.getElem?_eq_getElem hbl
            have hlis := (hs _ _ hk).2 hlt
            have hin : i ∈ anc l ((linksOf Fs 0)[boundOf l (linksOf Fs 0) i] + 1) [(linksOf Fs 0)[boundOf l (linksOf Fs 0) i]] := List.contains_iff_mem.1 (List.findIdx_getElem (w := hbl))
            rcases anc_listed (L := fun j => b.getD j false = true) (i := (linksOf Fs 0)[boundOf l (linksOf Fs 0) i]) (fun q o' ho' hq j hj => by
              rcases hq with rfl | hq
              · exact hcl _ o' ho' hlis j hj
              · exact hcl q o' ho' hq j hj) _ _ (fun s hs' => .inl (by simpa using hs')) _ hin with e | e
            · exact absurd e.symm (hni _ _ hk)
            · rw [hbi] at e; cases e
          · exact hge
        refine chainSteps_val l Fs 0 0 i o x h hol hfi vs W s hRW (by rw [Nat.zero_add]; exact hsb) hst K fun v hv => hK v W ⟨hRW, hF.upd (fun y hy => ?_), hcl', s, fun k c hkc => ?_, hsl, ?_⟩
        · rw [hfi] at hy; cases hy; exact hv
        · rw [getD_set_ne false (Ne.symm (hni k c hkc))]; exact hs k c hkc
        · cases s with
          | zero => exact hst
          | succ s =>
            have hlk : (linksOf Fs 0)[s]? = some ((linksOf Fs 0).getD s 0) := by
              rw [List.getElem?_eq_getElem (by omega)]; simp [List.getD, show s < (linksOf Fs 0).length by omega]
            simp only [stageOf] at hst ⊢
            have : upd vs i v ((linksOf Fs 0).getD s 0) = vs ((linksOf Fs 0).getD s 0) := if_neg (hni s _ hlk)
            rw [this]; exact hst
      | link G =>
        obtain ⟨k, hk⟩ := List.getElem?_of_mem ((hmem i (Nat.zero_le _) (by omega)).2 ⟨G, by simpa using hfi⟩)
        have hks : s = k := by
          have h1 : ¬ k < s := fun hlt => by have := (hs k i hk).2 hlt; rw [hbi] at this; cases this
          cases k with
          | zero => omega
          | succ k =>
            have hkl := (List.getElem?_eq_some_iff.1 hk).1
            have hpk : (linksOf Fs 0)[k]? = some ((linksOf Fs 0)[k]) := List.getElem?_eq_getElem (by omega)
            have hin := anc_listed (L := fun j => b.getD j false = true) (i := i) (fun q o' ho' hq j hj => by
              rcases hq with rfl | hq
              · rw [hol] at ho'; cases ho'; exact hdep j hj
              · exact hcl q o' ho' hq j hj) (i + 1) [i] (fun s hs' => .inl (by simpa using hs')) _ (chained_at hc hpk hk)
            have hne : (linksOf Fs 0)[k] ≠ i := fun e => by
              have := hinj k (k + 1) i (by rw [hpk, e]) hk
              omega
            have := (hs k _ hpk).1 (hin.resolve_left hne)
            omega
        subst hks
        have := chainSteps_link l Fs 0 i s 0 o G h hol hfi (by simpa using hk) vs W hRW (by simpa using hst) K
        have hgk : (linksOf Fs 0).getD s 0 = i := by simp [List.getD, hk]
        refine this fun v W' hR' hG => hK v W' ⟨hR', hF.upd (fun y hy => by rw [hfi] at hy; cases hy), hcl', s + 1, fun j c hjc => ?_, ?_, ?_⟩
        · by_cases e : c = i
          · subst e
            have := hinj j s c hjc hk
            rw [hset]
            simp; omega
          · rw [getD_set_ne false (Ne.symm e), hs j c hjc]
            have : j ≠ s := fun e' => e (by subst e'; rw [hk] at hjc; injection hjc with hjc; exact hjc.symm)
            omega
        · have := (List.getElem?_eq_some_iff.1 hk).1; omega
        · simp only [stageOf, hgk]
          have ht : tieAt Fs i = .link G := by simp [tieAt, List.getD, hfi]
          rw [ht]
          simpa [upd] using hG
  · rintro b vs W ⟨hRW, hF, _, s, hs, hsl, hst⟩ hall
    simp only [hfill vs hF]
    refine hend vs W hRW ?_
    have : s = (linksOf Fs 0).length := by
      rcases Nat.lt_or_ge s (linksOf Fs 0).length with hlt | hge
      · have hk : (linksOf Fs 0)[s]? = some ((linksOf Fs 0)[s]) := List.getElem?_eq_getElem hlt
        have hin := List.mem_of_getElem? hk
        have hb := (hs s _ hk).1 (hall _ ?_)
        · omega
        · have hx : ∀ (Gs : List Tie) (m i : Nat), i ∈ linksOf Gs m → i < m + Gs.length := by
            intro Gs
            induction Gs with
            | nil => intro m i hi; simp [linksOf] at hi
            | cons g Gs ih =>
              intro m i hi
              cases g with
              | val x => have := ih (m + 1) i (by simpa [linksOf] using hi); simp; omega
              | link G =>
                simp only [linksOf, List.mem_cons] at hi
                rcases hi with rfl | hi
                · simp
                · have := ih (m + 1) i hi; simp; omega
          have := hx Fs 0 _ hin
          simp; omega
      · omega
    rw [← this]
    exact hst
end Go.Proofs.Ytfgjiaakoacomaa
namespace Go.Proofs.Ytfgjiaakoacomaa
set_option maxRecDepth 20000
open Go.RowKit

/-- All blocks stay but those of type T from B on. -/
structure Kept (T : TypeId) (B : Nat) (w w' : World) : Prop where
  size : w.heap.size ≤ w'.heap.size
  low : Below B w w'
  block : ∀ k, k < w.heap.size → (∀ cs z, w.heap[k]? ≠ some (.cells cs T z)) → w'.heap[k]? = w.heap[k]?
theorem kept_below {T : TypeId} {B : Nat} {w w' : World} (h : Below w.heap.size w w') (hB : B ≤ w.heap.size) : Kept T B w w' := ⟨h.size, h.mono hB, fun k hk _ => h.block k hk⟩

theorem own_kept {T e : TypeId} {B base size n : Nat} {w w' : World} {v : Value} {xs : List Value} (h : w.ownsRow base e size v n xs) (hk : Kept T B w w') (ht : e ≠ T) : w'.ownsRow base e size v n xs := by
  refine ⟨h.1, ?_⟩
  rcases h.2 with hn | ⟨g, cap, cur, hv, hg, hh, r⟩
  · exact .inl hn
  · refine .inr ⟨g, cap, cur, hv, hg, ?_, r⟩
    rw [hk.block g (Array.getElem?_eq_some_iff.1 hh).1 (fun cs z he => ?_)]
    · exact hh
    · rw [hh] at he
      injection he with he
      injection he with _ he _
      exact ht he

theorem kept_grown {e : TypeId} {base size n : Nat} {w w' : World} {v : Value} {xs : List Value} (h : w.ownsRow base e size v n xs) (hg : w.grownBy w' v.ownBlock) (hb : Below base w w') : Kept e base w w' := by
  refine ⟨hb.size, hb, fun k hk hne => hg.block k hk fun hv => ?_⟩
  rcases h.2 with ⟨rfl, _⟩ | ⟨g, cap, cur, rfl, _, hh, _⟩
  · cases hv
  · simp only [Value.ownBlock, Option.some.injEq] at hv
    subst hv
    exact hne _ _ hh
theorem own_kept2 {T e t : TypeId} {B base size n : Nat} {w w' : World} {v : Value} {xs : List Value} (h : w.ownsRow base t size v n xs) (hk : Kept T B w w' ∨ Kept e B w w') (h1 : t ≠ T) (h2 : t ≠ e) : w'.ownsRow base t size v n xs :=
  hk.elim (fun k => own_kept h k h1) (fun k => own_kept h k h2)

/-- What is known of an operation's value: which one it is; something that stays; something that stays until operation k has come up; that it is a new box; that it has filled the box of operation k. -/
inductive Kind (T e : TypeId) (B : Nat) where
  | val (v : Value)
  | pred (F : Value → World → Prop) (h : ∀ v w w', F v w → Kept T B w w' ∨ Kept e B w w' → F v w')
  | grow (F : Value → World → Prop) (h : ∀ v w w', F v w → Kept T B w w' → F v w')
  | temp (k : Nat) (F : Value → World → Prop) (h : ∀ v w w', F v w → Kept T B w w' → F v w')
  | box (z : Array Value)
  | put (k : Nat) (G : Nat → World → Prop) (h : ∀ X w w', G X w → Kept T B w w' ∨ Kept e B w w' → w'.heap[X]? = w.heap[X]? → G X w')

section
variable {T e : TypeId} {B : Nat}
def kindAt (Fs : List (Kind T e B)) (j : Nat) : Kind T e B := Fs.getD j (.pred (fun _ _ => True) fun _ _ _ _ _ => trivial)
def zAt (Fs : List (Kind T e B)) (j : Nat) : Array Value := match kindAt Fs j with
  | .box z => z
  | _ => #[]
/-- Operation j fills the box k. -/
def fillsB (Fs : List (Kind T e B)) (j k : Nat) : Bool := match kindAt Fs j with
  | .put m _ _ => m == k
  | _ => false
def isBoxB (Fs : List (Kind T e B)) (j : Nat) : Bool := match kindAt Fs j with
  | .box _ => true
  | _ => false
def boxPtr (X : Nat) : Value := .pointer (some ⟨X, 0, none⟩)
def holdsK (Fs : List (Kind T e B)) (b : Array Bool) (us : Nat → Value) (w : World) (j : Nat) : Prop := match kindAt Fs j with
  | .val x => us j = x
  | .pred F _ => F (us j) w
  | .grow F _ => F (us j) w
  | .temp k F _ => b.getD k false = false → F (us j) w
  | .box z => ∃ X, us j = boxPtr X ∧ B ≤ X ∧ X < w.heap.size ∧ ((∀ i, fillsB Fs i j = true → b.getD i false = false) → w.heap[X]? = some (.cells z T (0, 0)))
  | .put k G _ => ∃ X, us k = boxPtr X ∧ B ≤ X ∧ X < w.heap.size ∧ (∃ cs, w.heap[X]? = some (.cells cs T (0, 0))) ∧ G X w

/-- Each box is filled by one operation, which waits for it. -/
def boxesB (ops : List Oper) (Fs : List (Kind T e B)) : Bool :=
  (List.range ops.length).all fun i => match kindAt Fs i with
    | .put k _ _ => isBoxB Fs k && (match ops[i]? with
      | some o => (depsOf o).contains k
      | none => false) && (List.range ops.length).all fun j => !fillsB Fs j k || j == i
    | .grow _ _ => (List.range ops.length).all fun j => match kindAt Fs j with
      | .temp k _ _ => k == i
      | .grow _ _ => j == i
      | _ => true
    | _ => true

def fillK : List Oper → List (Kind T e B) → Nat → (Nat → Value) → Act → Act
  | o :: l, .val x :: Fs, k, us, a => fillK l Fs (k + 1) us (a.put o.dst x)
  | o :: l, .pred _ _ :: Fs, k, us, a => fillK l Fs (k + 1) us (a.put o.dst (us k))
  | o :: l, .grow _ _ :: Fs, k, us, a => fillK l Fs (k + 1) us (a.put o.dst (us k))
  | o :: l, .temp _ _ _ :: Fs, k, us, a => fillK l Fs (k + 1) us (a.put o.dst (us k))
  | o :: l, .box _ :: Fs, k, us, a => fillK l Fs (k + 1) us (a.put o.dst (us k))
  | o :: l, .put _ _ _ :: Fs, k, us, a => fillK l Fs (k + 1) us (a.put o.dst (us k))
  | o :: l, [], k, us, a => fillK l [] (k + 1) us (a.put o.dst (us k))
  | [], _, _, _, a => a
def KnownK (Fs : List (Kind T e B)) (us : Nat → Value) : Prop := ∀ i x, Fs[i]? = some (.val x) → us i = x
theorem fillK_eq : ∀ (l : List Oper) (Fs : List (Kind T e B)) (k : Nat) (us : Nat → Value) (a : Act), (∀ i x, Fs[i]? = some (.val x) → us (k + i) = x) → fillOps l k us a = fillK l Fs k us a
  | [], _, _, _, _, _ => by simp [fillOps, fillK]
  | o :: l, [], k, us, a, h => by
    rw [fillOps, fillK]
    exact fillK_eq l [] (k + 1) us _ fun i x hi => by simp at hi
  | o :: l, .val x :: Fs, k, us, a, h => by
    rw [fillOps, fillK, show us k = x from h 0 x rfl]
    exact fillK_eq l Fs (k + 1) us _ fun i y hi => by rw [show k + 1 + i = k + (i + 1) by omega]; exact h (i + 1) y (by simpa using hi)
  | o :: l, .pred F hF :: Fs, k, us, a, h => by
    rw [fillOps, fillK]
    exact fillK_eq l Fs (k + 1) us _ fun i y hi => by rw [show k + 1 + i = k + (i + 1) by omega]; exact h (i + 1) y (by simpa using hi)
  | o :: l, .grow F hF :: Fs, k, us, a, h => by
    rw [fillOps, fillK]
    exact fillK_eq l Fs (k + 1) us _ fun i y hi => by rw [show k + 1 + i = k + (i + 1) by omega]; exact h (i + 1) y (by simpa using hi)
  | o :: l, .temp m F hF :: Fs, k, us, a, h => by
    rw [fillOps, fillK]
    exact fillK_eq l Fs (k + 1) us _ fun i y hi => by rw [show k + 1 + i = k + (i + 1) by omega]; exact h (i + 1) y (by simpa using hi)
  | o :: l, .box z :: Fs, k, us, a, h => by
    rw [fillOps, fillK]
    exact fillK_eq l Fs (k + 1) us _ fun i y hi => by rw [show k + 1 + i = k + (i + 1) by omega]; exact h (i + 1) y (by simpa using hi)
  | o :: l, .put m G hG :: Fs, k, us, a, h => by
    rw [fillOps, fillK]
    exact fillK_eq l Fs (k + 1) us _ fun i y hi => by rw [show k + 1 + i = k + (i + 1) by omega]; exact h (i + 1) y (by simpa using hi)
theorem KnownK.upd {Fs : List (Kind T e B)} {us : Nat → Value} (h : KnownK Fs us) {i : Nat} {v : Value} (hv : ∀ x, Fs[i]? = some (.val x) → v = x) : KnownK Fs (upd us i v) := by
  intro j x hj
  by_cases e : j = i
  · subst e
    simpa [Go.Proofs.Ytfgjiaakoacomaa.upd] using hv x hj
  · simpa [Go.Proofs.Ytfgjiaakoacomaa.upd, e] using h j x hj
def knownK (Fs : List (Kind T e B)) : Nat → Value := fun i => match Fs[i]? with
  | some (.val x) => x
  | _ => undef
theorem known_k (Fs : List (Kind T e B)) : KnownK Fs (knownK Fs) := fun i x h => by simp [knownK, h]

/-- What is known of what an operation waits for. -/
def depsHold (Fs : List (Kind T e B)) (us : Nat → Value) (w : World) (i j : Nat) : Prop := match kindAt Fs j with
  | .val x => us j = x
  | .pred F _ => F (us j) w
  | .grow F _ => F (us j) w
  | .temp k F _ => k = i → F (us j) w
  | .box _ => ∃ X, us j = boxPtr X ∧ B ≤ X ∧ X < w.heap.size
  | .put k G _ => ∃ X, us k = boxPtr X ∧ B ≤ X ∧ X < w.heap.size ∧ G X w
theorem depsHold_of {Fs : List (Kind T e B)} {b : Array Bool} {us : Nat → Value} {w : World} {i j : Nat} (h : holdsK Fs b us w j) (hun : b.getD i false = false) : depsHold Fs us w i j := by
  unfold holdsK at h
  unfold depsHold
  revert h
  cases kindAt Fs j with
  | val x => exact id
  | pred F hF => exact id
  | grow F hF => exact id
  | temp k F hF => intro h hk; subst hk; exact h hun
  | box z => rintro ⟨X, h1, h2, h3, _⟩; exact ⟨X, h1, h2, h3⟩
  | put k G hG => rintro ⟨X, h1, h2, h3, _, h5⟩; exact ⟨X, h1, h2, h3, h5⟩

def stepOf (P : Program) (ops : Array Oper) (base : World) (A : (Nat → Value) → Act) (Fs : List (Kind T e B)) (o : Oper) (i : Nat) (f : Kind T e B) : Prop :=
  ∀ us W, Below base.heap.size base W → (∀ j, (depsOf o).contains j = true → depsHold Fs us W i j) → match f with
    | .val x => ∀ K : Act → World → Prop, (∀ v W', Below W.heap.size W W' → v = x → K ((A us).put o.dst v) W') →
      if Region.wanted o (yielded ops (A us).tmps) then o.wp P (A us) W K NoQ else K ((A us).put o.dst undef) W
    | .pred F _ => ∀ K : Act → World → Prop, (∀ v W', Below W.heap.size W W' → F v W' → K ((A us).put o.dst v) W') →
      if Region.wanted o (yielded ops (A us).tmps) then o.wp P (A us) W K NoQ else K ((A us).put o.dst undef) W
    | .grow F _ => ∀ K : Act → World → Prop, (∀ v W', Kept e B W W' → F v W' → K ((A us).put o.dst v) W') →
      if Region.wanted o (yielded ops (A us).tmps) then o.wp P (A us) W K NoQ else K ((A us).put o.dst undef) W
    | .temp _ F _ => ∀ K : Act → World → Prop, (∀ v W', Below W.heap.size W W' → F v W' → K ((A us).put o.dst v) W') →
      if Region.wanted o (yielded ops (A us).tmps) then o.wp P (A us) W K NoQ else K ((A us).put o.dst undef) W
    | .box z => ∀ K : Act → World → Prop, (∀ v W', v = boxPtr W.heap.size → W' = W.alloc (.cells z T) → K ((A us).put o.dst v) W') →
      if Region.wanted o (yielded ops (A us).tmps) then o.wp P (A us) W K NoQ else K ((A us).put o.dst undef) W
    | .put k G _ => ∀ X, us k = boxPtr X → B ≤ X → W.heap[X]? = some (.cells (zAt Fs k) T (0, 0)) → ∀ K : Act → World → Prop, (∀ v W', Below X W W' → (∀ j, j ≠ X → W'.heap[j]? = W.heap[j]?) → (∃ cs, W'.heap[X]? = some (.cells cs T (0, 0))) → G X W' → K ((A us).put o.dst v) W') →
      if Region.wanted o (yielded ops (A us).tmps) then o.wp P (A us) W K NoQ else K ((A us).put o.dst undef) W

def BoxSteps (P : Program) (ops : Array Oper) (base : World) (A : (Nat → Value) → Act) (Fs : List (Kind T e B)) : List Oper → List (Kind T e B) → Nat → Prop
  | [], _, _ => True
  | _ :: _, [], _ => False
  | o :: l, f :: Gs, i => stepOf P ops base A Fs o i f ∧ BoxSteps P ops base A Fs l Gs (i + 1)
theorem boxSteps_at {P : Program} {ops : Array Oper} {base : World} {A : (Nat → Value) → Act} {Fs : List (Kind T e B)} : ∀ (l : List Oper) (Gs : List (Kind T e B)) (m i : Nat) (o : Oper), BoxSteps P ops base A Fs l Gs m → l[i]? = some o → stepOf P ops base A Fs o (m + i) (kindAt Gs i)
  | [], _, m, i, o, _, h => by simp at h
  | p :: l, [], m, i, o, hg, _ => (hg : False).elim
  | p :: l, f :: Gs, m, 0, o, hg, h => by
    obtain rfl : p = o := by simpa using h
    exact hg.1
  | p :: l, f :: Gs, m, i + 1, o, hg, h => by
    have := boxSteps_at l Gs (m + 1) i o hg.2 (by simpa using h)
    rw [show m + 1 + i = m + (i + 1) by omega] at this
    simpa [kindAt] using this

/-- What is known of an operation stays so while memory is made. -/
theorem holdsK_grow {Fs : List (Kind T e B)} {b b' : Array Bool} {us us' : Nat → Value} {w w' : World} {j : Nat} (h : holdsK Fs b us w j) (hb : Below w.heap.size w w') (hB : B ≤ w.heap.size) (hus : us' j = us j) (hus2 : ∀ k, fillsB Fs j k = true → us' k = us k) (hbb : ∀ i, b'.getD i false = false → b.getD i false = false) : holdsK Fs b' us' w' j := by
  have hf : ∀ k G hG, kindAt Fs j = .put k G hG → fillsB Fs j k = true := fun k G hG e => by simp [fillsB, e]
  unfold holdsK at h ⊢
  revert h hf
  cases kindAt Fs j with
  | val x => intro h _; rw [hus]; exact h
  | pred F hF => intro h _; rw [hus]; exact hF _ _ _ h (.inl (kept_below hb hB))
  | grow F hF => intro h _; rw [hus]; exact hF _ _ _ h (kept_below hb hB)
  | temp k F hF => intro h _ hk; rw [hus]; exact hF _ _ _ (h (hbb k hk)) (kept_below hb hB)
  | box z =>
    rintro ⟨X, h1, h2, h3, h4⟩ _
    exact ⟨X, hus.trans h1, h2, Nat.lt_of_lt_of_le h3 hb.size, fun hi => (hb.block X h3).trans (h4 fun i hi2 => hbb i (hi i hi2))⟩
  | put k G hG =>
    rintro ⟨X, h1, h2, h3, ⟨cs, h5⟩, h4⟩ hf
    exact ⟨X, (hus2 k (hf k G hG rfl)).trans h1, h2, Nat.lt_of_lt_of_le h3 hb.size, ⟨cs, (hb.block X h3).trans h5⟩, hG X _ _ h4 (.inl (kept_below hb hB)) (hb.block X h3)⟩

theorem kindAt_val {Fs : List (Kind T e B)} {i : Nat} {x : Value} (h : Fs[i]? = some (.val x)) : kindAt Fs i = .val x := by simp [kindAt, h]
theorem fills_lt {Fs : List (Kind T e B)} {i k : Nat} (h : fillsB Fs i k = true) : i < Fs.length := by
  by_cases hi : i < Fs.length
  · exact hi
  · simp [fillsB, kindAt, hi] at h
theorem boxes_spec {ops : List Oper} {Fs : List (Kind T e B)} (h : boxesB ops Fs = true) {i k : Nat} {G : Nat → World → Prop} {hG} (hk : kindAt Fs i = .put k G hG) (hi : i < ops.length) :
    isBoxB Fs k = true ∧ (∃ o, ops[i]? = some o ∧ (depsOf o).contains k = true) ∧ ∀ j, j < ops.length → fillsB Fs j k = true → j = i := by
  simp only [boxesB, List.all_eq_true, List.mem_range] at h
  have h1 := h i hi
  simp only [hk, Bool.and_eq_true, List.all_eq_true, List.mem_range, Bool.or_eq_true, Bool.not_eq_true', beq_iff_eq] at h1
  obtain ⟨⟨h2, h3⟩, h4⟩ := h1
  refine ⟨h2, ?_, fun j hj hf => ?_⟩
  · cases ho : ops[i]? with
    | none => simp [ho] at h3
    | some o => exact ⟨o, rfl, by simpa [ho] using h3⟩
  · rcases h4 j hj with h5 | h5
    · rw [hf] at h5; cases h5
    · exact h5
theorem grow_spec {ops : List Oper} {Fs : List (Kind T e B)} (h : boxesB ops Fs = true) {i : Nat} {F : Value → World → Prop} {hF} (hk : kindAt Fs i = .grow F hF) (hi : i < ops.length) :
    (∀ j, j < ops.length → ∀ k G hG, kindAt Fs j = .temp k G hG → k = i) ∧ ∀ j, j < ops.length → ∀ G hG, kindAt Fs j = .grow G hG → j = i := by
  simp only [boxesB, List.all_eq_true, List.mem_range] at h
  have h1 := h i hi
  simp only [hk, List.all_eq_true, List.mem_range] at h1
  refine ⟨fun j hj k G hG ej => ?_, fun j hj G hG ej => ?_⟩
  · have h2 := h1 j hj
    simpa only [ej, beq_iff_eq] using h2
  · have h2 := h1 j hj
    simpa only [ej, beq_iff_eq] using h2
theorem put_spec {Fs : List (Kind T e B)} {j k : Nat} (h : fillsB Fs j k = true) : ∃ G hG, kindAt Fs j = .put k G hG := by
  unfold fillsB at h
  cases e : kindAt Fs j with
  | put m G hG =>
    simp only [e, beq_iff_eq] at h
    subst h
    exact ⟨G, hG, rfl⟩
  | _ => simp [e] at h
theorem isBox_spec {Fs : List (Kind T e B)} {k : Nat} (h : isBoxB Fs k = true) : kindAt Fs k = .box (zAt Fs k) := by
  unfold isBoxB at h
  unfold zAt
  cases e : kindAt Fs k with
  | box z => rfl
  | _ => simp [e] at h
theorem boxPtr_inj {X Y : Nat} (h : boxPtr X = boxPtr Y) : X = Y := by
  unfold boxPtr at h
  injection h with h
  injection h with h
  injection h

/-- What holds on the way. -/
structure BoxInv (l : List Oper) (w : World) (Fs : List (Kind T e B)) (b : Array Bool) (us : Nat → Value) (W : World) : Prop where
  known : KnownK Fs us
  len : b.size = l.length
  low : Below w.heap.size w W
  hold : ∀ i, i < l.length → b.getD i false = true → holdsK Fs b us W i
  deps : ∀ i k, i < l.length → b.getD i false = true → fillsB Fs i k = true → b.getD k false = true
  apart : ∀ i j, b.getD i false = true → b.getD j false = true → isBoxB Fs i = true → isBoxB Fs j = true → i ≠ j → us i ≠ us j

theorem set_false {b : Array Bool} {i j : Nat} (h : (b.setIfInBounds i true).getD j false = false) (hun : b.getD i false = false) : b.getD j false = false := by
  by_cases e : j = i
  · subst e; exact hun
  · rwa [getD_set_ne false (Ne.symm e)] at h
theorem set_true {b : Array Bool} {i j : Nat} (h : (b.setIfInBounds i true).getD j false = true) (hji : j ≠ i) : b.getD j false = true := by
  rwa [getD_set_ne false (Ne.symm hji)] at h
theorem set_keeps {b : Array Bool} {i j : Nat} (h : b.getD j false = true) (hun : b.getD i false = false) : (b.setIfInBounds i true).getD j false = true := by
  by_cases e : j = i
  · subst e; rw [h] at hun; cases hun
  · rwa [getD_set_ne false (Ne.symm e)]

/-- An operation that reads, or makes new memory. -/
theorem BoxInv.grow {l : List Oper} {w W W' : World} {Fs : List (Kind T e B)} {b : Array Bool} {us : Nat → Value} (h : BoxInv l w Fs b us W) (hBw : B = w.heap.size) {i : Nat} (hi : i < l.length) (hun : b.getD i false = false) {v : Value}
    (hb : Below W.heap.size W W') (hv : ∀ x, Fs[i]? = some (.val x) → v = x) (hnew : holdsK Fs (b.setIfInBounds i true) (upd us i v) W' i) (hput : ∀ k, fillsB Fs i k = false) (hbox : isBoxB Fs i = true → v = boxPtr W.heap.size) :
    BoxInv l w Fs (b.setIfInBounds i true) (upd us i v) W' := by
  have hW : B ≤ W.heap.size := by rw [hBw]; exact h.low.size
  have hne : ∀ j, j ≠ i → upd us i v j = us j := fun j hj => by simp [upd, hj]
  have hbx : isBoxB Fs i = true → ∀ j, b.getD j false = true → j < l.length → isBoxB Fs j = true → boxPtr W.heap.size ≠ us j := fun _ j hj hjl hjb he => by
    have h2 := h.hold j hjl hj
    unfold holdsK at h2
    rw [isBox_spec hjb] at h2
    obtain ⟨X, h3, _, h5, _⟩ := h2
    rw [h3] at he
    have := boxPtr_inj he
    omega
  have hin : ∀ j, b.getD j false = true → j < l.length := fun j hj => by
    by_cases hjl : j < b.size
    · rw [← h.len]; exact hjl
    · simp [hjl] at hj
  refine ⟨h.known.upd hv, by simp [h.len], h.low.trans (hb.mono h.low.size), fun j hj hd => ?_, fun j k hj hd hf => ?_, fun j k hj hk hjb hkb hjk => ?_⟩
  · by_cases e : j = i
    · subst e; exact hnew
    · refine holdsK_grow (h.hold j hj (set_true hd e)) hb hW (hne j e) (fun k hk => hne k ?_) (fun m hm => set_false hm hun)
      intro hki
      have := h.deps j k hj (set_true hd e) hk
      rw [hki, hun] at this; cases this
  · by_cases e : j = i
    · subst e; rw [hput k] at hf; cases hf
    · exact set_keeps (h.deps j k hj (set_true hd e) hf) hun
  · by_cases e : j = i
    · have e2 : k ≠ i := fun e2 => hjk (e.trans e2.symm)
      have hk' := set_true hk e2
      rw [e, hne k e2, show upd us i v i = v by simp [upd], hbox (by rw [← e]; exact hjb)]
      exact hbx (by rw [← e]; exact hjb) k hk' (hin k hk') hkb
    · by_cases e2 : k = i
      · have hj' := set_true hj e
        rw [e2, hne j e, show upd us i v i = v by simp [upd], hbox (by rw [← e2]; exact hkb)]
        exact fun hx => hbx (by rw [← e2]; exact hkb) j hj' (hin j hj') hjb hx.symm
      · rw [hne j e, hne k e2]
        exact h.apart j k (set_true hj e) (set_true hk e2) hjb hkb hjk

/-- An operation that fills a box. -/
theorem BoxInv.fill {l : List Oper} {w W W' : World} {Fs : List (Kind T e B)} {b : Array Bool} {us : Nat → Value} (h : BoxInv l w Fs b us W) (hBw : B = w.heap.size) {i : Nat} (hi : i < l.length) (hun : b.getD i false = false) {v : Value} (hmbox : ∀ j m, j < l.length → fillsB Fs j m = true → isBoxB Fs m = true)
    {k X : Nat} {G : Nat → World → Prop} {hG} (hki : kindAt Fs i = .put k G hG) (hkb : isBoxB Fs k = true) (hkd : b.getD k false = true) (hone : ∀ j, j < l.length → fillsB Fs j k = true → j = i)
    (hX : us k = boxPtr X) (hBX : B ≤ X) (hlt : X < W.heap.size) {z : Array Value} (hz : W.heap[X]? = some (.cells z T (0, 0))) (hb : Below X W W') (hoth : ∀ j, j ≠ X → W'.heap[j]? = W.heap[j]?) (hcs : ∃ cs, W'.heap[X]? = some (.cells cs T (0, 0))) (hg : G X W') :
    BoxInv l w Fs (b.setIfInBounds i true) (upd us i v) W' := by
  have hne : ∀ j, j ≠ i → upd us i v j = us j := fun j hj => by simp [upd, hj]
  have hib : isBoxB Fs i = false := by simp [isBoxB, hki]
  have hki' : k ≠ i := fun e => by rw [e] at hkb; rw [hib] at hkb; cases hkb
  have hkept : Kept T B W W' := ⟨hb.size, hb.mono hBX, fun j _ hj => hoth j fun e => by subst e; exact hj _ _ hz⟩
  have hfi : fillsB Fs i k = true := by simp [fillsB, hki]
  refine ⟨h.known.upd (fun x hx => by rw [kindAt_val hx] at hki; cases hki), by simp [h.len], h.low.trans (hb.mono (by omega)), fun j hj hd => ?_, fun j m hj hd hf => ?_, fun j m hj hm hjb hmb hjm => ?_⟩
  · by_cases e : j = i
    · subst e
      unfold holdsK
      rw [hki]
      exact ⟨X, (hne k hki').trans hX, hBX, Nat.lt_of_lt_of_le hlt hb.size, hcs, hg⟩
    · have h2 := h.hold j hj (set_true hd e)
      have hdj := h.deps j
      unfold holdsK at h2 ⊢
      cases ek : kindAt Fs j with
      | val x => rw [ek] at h2; exact (hne j e).trans h2
      | pred F hF => rw [ek] at h2; simp only at h2 ⊢; rw [hne j e]; exact hF _ _ _ h2 (.inl hkept)
      | grow F hF => rw [ek] at h2; simp only at h2 ⊢; rw [hne j e]; exact hF _ _ _ h2 hkept
      | temp m F hF => rw [ek] at h2; simp only at h2 ⊢; intro hm; rw [hne j e]; exact hF _ _ _ (h2 (set_false hm hun)) hkept
      | box y =>
        rw [ek] at h2
        obtain ⟨Y, h3, h4, h5, h6⟩ := h2
        refine ⟨Y, (hne j e).trans h3, h4, Nat.lt_of_lt_of_le h5 hb.size, fun hi2 => ?_⟩
        by_cases ejk : j = k
        · subst ejk
          have := hi2 i hfi
          rw [show (b.setIfInBounds i true).getD i false = true by simp [h.len, hi]] at this; cases this
        · have : Y ≠ X := fun eY => by
            subst eY
            exact h.apart j k (set_true hd e) hkd (by simp [isBoxB, ek]) hkb ejk (h3.trans hX.symm)
          rw [hoth Y this]
          exact h6 fun m hm => set_false (hi2 m hm) hun
      | put m G' hG' =>
        rw [ek] at h2
        obtain ⟨Y, h3, h4, h5, ⟨cs, h7⟩, h6⟩ := h2
        have hfm : fillsB Fs j m = true := by simp [fillsB, ek]
        have hmd := hdj m hj (set_true hd e) hfm
        have hmi : m ≠ i := fun em => by rw [em, hun] at hmd; cases hmd
        have hmk : m ≠ k := fun em => e (hone j hj (by rw [← em]; exact hfm))
        have hm3 : isBoxB Fs m = true := hmbox j m hj hfm
        have : Y ≠ X := fun eY => by
          subst eY
          exact h.apart m k hmd hkd hm3 hkb hmk (h3.trans hX.symm)
        exact ⟨Y, (hne m hmi).trans h3, h4, Nat.lt_of_lt_of_le h5 hb.size, ⟨cs, (hoth Y this).trans h7⟩, hG' Y _ _ h6 (.inl hkept) (hoth Y this)⟩
  · by_cases e : j = i
    · subst e
      obtain ⟨G2, hG2, e2⟩ := put_spec hf
      rw [hki] at e2
      injection e2 with e2
      subst e2
      exact set_keeps hkd hun
    · exact set_keeps (h.deps j m hj (set_true hd e) hf) hun
  · have e : j ≠ i := fun e => by rw [e, hib] at hjb; cases hjb
    have e2 : m ≠ i := fun e => by rw [e, hib] at hmb; cases hmb
    rw [hne j e, hne m e2]
    exact h.apart j m (set_true hj e) (set_true hm e2) hjb hmb hjm

/-- An operation that lengthens a row of another type. -/
theorem BoxInv.app {l : List Oper} {w W W' : World} {Fs : List (Kind T e B)} {b : Array Bool} {us : Nat → Value} (h : BoxInv l w Fs b us W) (hTe : T ≠ e) (hBw : B = w.heap.size) {i : Nat} (hi : i < l.length) (hun : b.getD i false = false) {v : Value} {F : Value → World → Prop} {hF}
    (hki : kindAt Fs i = .grow F hF) (htmp : ∀ j, j < l.length → ∀ k G hG, kindAt Fs j = .temp k G hG → k = i) (hone : ∀ j, j < l.length → ∀ G hG, kindAt Fs j = .grow G hG → j = i) (hb : Kept e B W W') (hf : F v W') : BoxInv l w Fs (b.setIfInBounds i true) (upd us i v) W' := by
  have hne : ∀ j, j ≠ i → upd us i v j = us j := fun j hj => by simp [upd, hj]
  have hib : isBoxB Fs i = false := by simp [isBoxB, hki]
  have hkeep : ∀ (X : Nat) (cs : Array Value), W.heap[X]? = some (Obj.cells cs T (0, 0)) → W'.heap[X]? = W.heap[X]? := fun X cs hX => hb.block X (Array.getElem?_eq_some_iff.1 hX).1 fun cs2 z2 he => by
    rw [hX] at he
    cases he
    exact hTe rfl
  refine ⟨h.known.upd (fun x hx => by rw [kindAt_val hx] at hki; cases hki), by simp [h.len], h.low.trans (by rw [← hBw]; exact hb.low), fun j hj hd => ?_, fun j m hj hd hf2 => ?_, fun j m hj hm hjb hmb hjm => ?_⟩
  · by_cases ej : j = i
    · subst ej
      unfold holdsK
      rw [hki]
      simpa [upd] using hf
    · have h2 := h.hold j hj (set_true hd ej)
      have hdj := h.deps j
      unfold holdsK at h2 ⊢
      cases ek : kindAt Fs j with
      | val x => rw [ek] at h2; exact (hne j ej).trans h2
      | pred G hG => rw [ek] at h2; simp only at h2 ⊢; rw [hne j ej]; exact hG _ _ _ h2 (.inr hb)
      | grow G hG => exact absurd (hone j hj G hG ek) ej
      | temp m G hG =>
        simp only
        intro hm
        rw [htmp j hj m G hG ek, show (b.setIfInBounds i true).getD i false = true by simp [h.len, hi]] at hm
        cases hm
      | box y =>
        rw [ek] at h2
        obtain ⟨Y, h3, h4, h5, h6⟩ := h2
        refine ⟨Y, (hne j ej).trans h3, h4, Nat.lt_of_lt_of_le h5 hb.size, fun hi2 => ?_⟩
        have h7 := h6 fun m hm => set_false (hi2 m hm) hun
        exact (hkeep Y _ h7).trans h7
      | put m G' hG' =>
        rw [ek] at h2
        obtain ⟨Y, h3, h4, h5, ⟨cs, h7⟩, h6⟩ := h2
        have hfm : fillsB Fs j m = true := by simp [fillsB, ek]
        have hmd := hdj m hj (set_true hd ej) hfm
        have hmi : m ≠ i := fun em => by rw [em, hun] at hmd; cases hmd
        exact ⟨Y, (hne m hmi).trans h3, h4, Nat.lt_of_lt_of_le h5 hb.size, ⟨cs, (hkeep Y _ h7).trans h7⟩, hG' Y _ _ h6 (.inr hb) (hkeep Y _ h7)⟩
  · by_cases ej : j = i
    · subst ej
      simp [fillsB, hki] at hf2
    · exact set_keeps (h.deps j m hj (set_true hd ej) hf2) hun
  · have ej : j ≠ i := fun ej => by rw [ej, hib] at hjb; cases hjb
    have e2 : m ≠ i := fun ej => by rw [ej, hib] at hmb; cases hmb
    rw [hne j ej, hne m e2]
    exact h.apart j m (set_true hj ej) (set_true hm e2) hjb hmb hjm

/-- **A region that draws its order, whose operations read, make new memory, or fill a box made in it: one obligation an operation.** Fs: what is known of each operation. -/
theorem wp_region_boxes {P : Program} {id : Nat} {Q : Exit → Act → World → Prop} {a : Act} {w : World} {l : List Oper} {T e : TypeId} (hTe : T ≠ e) (Fs : List (Kind T e w.heap.size)) {A : (Nat → Value) → Act}
    (hA : ∀ us (X : Act → Prop), X (A us) → X (fillK l Fs 0 us a)) (hm : P.follows .mixedOrders = true) (hw : wiredB .any l.toArray = true) (hlen : Fs.length = l.length) (hx : boxesB l Fs = true)
    (h : BoxSteps P l.toArray w A Fs l Fs 0)
    (hend : ∀ us W, Below w.heap.size w W → (∀ j, j < l.length → depsHold Fs us W l.length j) → Q .normal (A us) W) : (Code.region id l.toArray true).wp P Q a w := by
  have hfill : ∀ us, KnownK Fs us → fillOps l 0 us a = A us := fun us hk => by rw [fillK_eq l Fs 0 us a (fun i x hi => by rw [Nat.zero_add]; exact hk i x hi)]; exact hA us (fun b => b = A us) rfl
  refine wp_region_inv hm hw (BoxInv l w Fs) (knownK Fs) ⟨known_k Fs, by simp, (Below.refl _ _).drew, fun i hi hd => ?_, fun i k hi hd => ?_, fun i j hd => ?_⟩ ?_ ?_
  · by_cases hlt : i < l.length <;> simp [hlt] at hd
  · by_cases hlt : i < l.length <;> simp [hlt] at hd
  · by_cases hlt : i < l.length <;> simp [hlt] at hd
  · rintro i o b us W ho hJ hun hall K hK
    have ho' : l[i]? = some o := by simpa using ho
    have hi : i < l.length := (List.getElem?_eq_some_iff.1 ho').1
    replace hun : b.getD i false = false := by
      have hib : i < b.size := by rw [hJ.len]; exact hi
      simpa [Array.getD, hib] using hun
    simp only [hfill us hJ.known] at hK ⊢
    have hdone : ∀ j, (depsOf o).contains j = true → b.getD j false = true := fun j hj => by
      obtain ⟨e, he, rfl⟩ := List.mem_map.1 (List.contains_iff_mem.1 hj)
      obtain ⟨h1, h2⟩ := List.mem_filter.1 he
      exact hall e (by simpa using h1) h2
    have hin : ∀ j, b.getD j false = true → j < l.length := fun j hj => by
      by_cases hjl : j < b.size
      · rw [← hJ.len]; exact hjl
      · simp [hjl] at hj
    have hs := boxSteps_at l Fs 0 i o h ho' us W hJ.low (fun j hj => depsHold_of (hJ.hold j (hin j (hdone j hj)) (hdone j hj)) (by rw [Nat.zero_add]; exact hun))
    cases ek : kindAt Fs i with
    | val x =>
      simp only [ek] at hs
      refine hs K fun v W' hb hv => hK v W' (hJ.grow rfl hi hun hb (fun y hy => by rw [kindAt_val hy] at ek; injection ek with ek; rw [hv, ek]) ?_ (fun k => by simp [fillsB, ek]) (fun hbx => by simp [isBoxB, ek] at hbx))
      unfold holdsK; rw [ek]; simpa [upd] using hv
    | pred F hF =>
      simp only [ek] at hs
      refine hs K fun v W' hb hv => hK v W' (hJ.grow rfl hi hun hb (fun y hy => by rw [kindAt_val hy] at ek; cases ek) ?_ (fun k => by simp [fillsB, ek]) (fun hbx => by simp [isBoxB, ek] at hbx))
      unfold holdsK; rw [ek]; simpa [upd] using hv
    | temp k F hF =>
      simp only [ek] at hs
      refine hs K fun v W' hb hv => hK v W' (hJ.grow rfl hi hun hb (fun y hy => by rw [kindAt_val hy] at ek; cases ek) ?_ (fun k => by simp [fillsB, ek]) (fun hbx => by simp [isBoxB, ek] at hbx))
      unfold holdsK; rw [ek]; simp only; intro _; simpa [upd] using hv
    | grow F hF =>
      simp only [ek] at hs
      exact hs K fun v W' hb hv => hK v W' (hJ.app hTe rfl hi hun ek (grow_spec hx ek hi).1 (grow_spec hx ek hi).2 hb hv)
    | box z =>
      simp only [ek] at hs
      refine hs K fun v W' hv hW' => hK v W' (hJ.grow rfl hi hun (by rw [hW']; exact (Below.refl _ _).alloc (Nat.le_refl _) _) (fun y hy => by rw [kindAt_val hy] at ek; cases ek) ?_ (fun k => by simp [fillsB, ek]) (fun _ => hv))
      unfold holdsK; rw [ek]
      exact ⟨W.heap.size, by simpa [upd] using hv, hJ.low.size, by rw [hW']; simp, fun _ => by rw [hW']; exact heap_alloc_new _ _⟩
    | put k G hG =>
      simp only [ek] at hs
      obtain ⟨h1, ⟨o2, h2, h3⟩, h4⟩ := boxes_spec hx ek hi
      rw [ho'] at h2
      injection h2 with h2
      subst h2
      have hkd := hdone k h3
      have hbk := hJ.hold k (hin k hkd) hkd
      unfold holdsK at hbk
      rw [isBox_spec h1] at hbk
      obtain ⟨X, hX, hBX, hlt, hz⟩ := hbk
      have hz' := hz fun j hj => by rw [h4 j (by rw [← hlen]; exact fills_lt hj) hj]; exact hun
      exact hs X hX hBX hz' K fun v W' hb hoth hcs hg => hK v W' (hJ.fill rfl hi hun (fun j m hj hf => by
        obtain ⟨G2, hG2, e2⟩ := put_spec hf
        exact (boxes_spec hx e2 hj).1) ek h1 hkd h4 hX hBX hlt hz' hb hoth hcs hg)
  · rintro b us W hJ hall
    simp only [hfill us hJ.known]
    exact hend us W hJ.low (fun j hj => depsHold_of (hJ.hold j hj (hall j (by simpa using hj))) (by simp [hJ.len]))
end
end Go.Proofs.Ytfgjiaakoacomaa
