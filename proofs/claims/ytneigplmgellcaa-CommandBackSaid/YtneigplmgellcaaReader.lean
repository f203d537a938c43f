/- The wire's reader: where it stands, what each of its calls comes to. -/
import Derived.Test.YtneigplmgellcaaCmdMath
import Derived.Test.YtneigplmgellcaaMem
namespace Go.Proofs.Ytneigplmgellcaa
set_option maxRecDepth 20000
open Go.RowKit

/-- All blocks but R are as they were; there may be more. -/
structure Only (R : Nat) (w w' : World) : Prop where
  os : w'.os = w.os
  tape : w'.tape = w.tape
  output : w'.output = w.output
  size : w.heap.size ≤ w'.heap.size
  block : ∀ k, k < w.heap.size → k ≠ R → w'.heap[k]? = w.heap[k]?
section
variable {w w1 w' : World} {R B base : Nat}
theorem Only.refl (R : Nat) (w : World) : Only R w w := ⟨rfl, rfl, rfl, Nat.le_refl _, fun _ _ _ => rfl⟩
theorem Only.trans (h : Only R w w1) (k : Only R w1 w') : Only R w w' :=
  ⟨k.os.trans h.os, k.tape.trans h.tape, k.output.trans h.output, Nat.le_trans h.size k.size, fun j hj hr => (k.block j (Nat.lt_of_lt_of_le hj h.size) hr).trans (h.block j hj hr)⟩
theorem Only.setCell (h : Only R w w1) (o : Nat) (u : Value) : Only R w (w1.setCell ⟨R, o, none⟩ u) :=
  ⟨h.os, h.tape, h.output, by simpa using h.size, fun j hj hr => (Below.heap_setCell _ _ _ _ hr).trans (h.block j hj hr)⟩
theorem Only.drew (h : Only R w w1) : Only R w w1.drew := ⟨h.os, h.tape, h.output, h.size, h.block⟩
theorem Only.drewN (h : Only R w w1) (n : Nat) : Only R w (w1.drewN n) := ⟨h.os, h.tape, h.output, h.size, h.block⟩
theorem Only.alloc (h : Only R w w1) (o : Obj) : Only R w (w1.alloc o) :=
  ⟨h.os, h.tape, h.output, by have := h.size; simp; omega, fun j hj hr => (Below.heap_alloc _ _ _ (Nat.lt_of_lt_of_le hj h.size)).trans (h.block j hj hr)⟩
theorem Only.below (h : Only R w w1) (hb : Below w1.heap.size w1 w') : Only R w w' :=
  ⟨hb.os.trans h.os, hb.tape.trans h.tape, hb.output.trans h.output, Nat.le_trans h.size hb.size, fun j hj hr => (hb.block j (Nat.lt_of_lt_of_le hj h.size)).trans (h.block j hj hr)⟩
/-- .. also where rows from 'base' on, made since, are written. -/
theorem Only.below_from (h : Only R w w1) (hb : Below base w1 w') (hB : w.heap.size ≤ base) : Only R w w' :=
  ⟨hb.os.trans h.os, hb.tape.trans h.tape, hb.output.trans h.output, Nat.le_trans h.size hb.size, fun j hj hr => (hb.block j (Nat.lt_of_lt_of_le hj hB)).trans (h.block j hj hr)⟩
theorem Only.to_below (h : Only R w w1) (hB : B ≤ R) (hs : B ≤ w.heap.size) : Below B w w1 := ⟨h.os, h.tape, h.output, h.size, fun k hk => h.block k (by omega) (by omega)⟩
theorem below_only (h : Below B w w1) (ho : Only R w1 w') (hB : B ≤ R) (hs : B ≤ w1.heap.size) : Below B w w' := h.trans (ho.to_below hB hs)
theorem own_only {e : TypeId} {size n : Nat} {v : Value} {xs : List Value} (h : w.ownsRow base e size v n xs) (ho : Only R w w') (hR : R < base) : w'.ownsRow base e size v n xs := by
  refine ⟨h.1, ?_⟩
  rcases h.2 with hn | ⟨g, cap, cur, hv, hg, hh, r⟩
  · exact .inl hn
  · exact .inr ⟨g, cap, cur, hv, hg, by rw [ho.block g (Array.getElem?_eq_some_iff.1 hh).1 (by omega)]; exact hh, r⟩
theorem Reads.only {size n : Nat} {A : Option Addr} {xs : List Value} (h : Reads w B size A n xs) (ho : Only R w w') (hB : B ≤ R) (hs : B ≤ w.heap.size) : Reads w' B size A n xs := h.below (ho.to_below hB hs)

/-- A block of cells, whole. -/
def Blk (w : World) (b : Nat) (cs : Array Value) (t : TypeId) : Prop := w.heap[b]? = some (.cells cs t (0, 0))
theorem Blk.lt {b : Nat} {cs : Array Value} {t : TypeId} (h : Blk w b cs t) : b < w.heap.size := lt_of_block h
theorem Blk.cell {b : Nat} {cs : Array Value} {t : TypeId} (h : Blk w b cs t) {i : Nat} {v : Value} (hv : cs[i]? = some v) : w.cell? ⟨b, i, none⟩ = some v := by
  unfold Blk at h; simp [World.cell?, h, hv]
theorem Blk.free {b : Nat} {cs : Array Value} {t : TypeId} (h : Blk w b cs t) (i : Nat) : w.frozen? ⟨b, i, none⟩ = false := by
  unfold Blk at h; simp [World.frozen?, h]
theorem Blk.new (w : World) (cs : Array Value) (t : TypeId) : Blk (w.alloc (.cells cs t)) w.heap.size cs t := heap_alloc_new _ _
theorem Blk.set {b : Nat} {cs : Array Value} {t : TypeId} (h : Blk w b cs t) (i : Nat) (u : Value) : Blk (w.setCell ⟨b, i, none⟩ u) b (cs.setIfInBounds i u) t := by
  have hlt := h.lt
  have h' : w.heap[b] = .cells cs t (0, 0) := by have := h; unfold Blk at this; simpa [Array.getElem?_eq_getElem hlt] using this
  show (w.heap.modify b _)[b]? = _
  rw [Array.getElem?_eq_getElem (by simpa using hlt), Array.getElem_modify_self, h']
  rfl
theorem Blk.keep {b : Nat} {cs : Array Value} {t : TypeId} (h : Blk w b cs t) (hk : w'.heap[b]? = w.heap[b]?) : Blk w' b cs t := hk.trans h
theorem Blk.other {b : Nat} {cs : Array Value} {t : TypeId} (h : Blk w b cs t) {a : Addr} (ha : b ≠ a.block) (u : Value) : Blk (w.setCell a u) b cs t := h.keep (Below.heap_setCell _ _ _ _ ha)
theorem Blk.only {b : Nat} {cs : Array Value} {t : TypeId} (h : Blk w b cs t) (ho : Only R w w') (hb : b ≠ R) : Blk w' b cs t := h.keep (ho.block b h.lt hb)
theorem Blk.below {b : Nat} {cs : Array Value} {t : TypeId} (h : Blk w b cs t) (hb : Below B w w') (hB : b < B) : Blk w' b cs t := h.keep (hb.block b hB)
theorem Blk.alloc {b : Nat} {cs : Array Value} {t : TypeId} (h : Blk w b cs t) (o : Obj) : Blk (w.alloc o) b cs t := h.keep (Below.heap_alloc _ _ _ h.lt)
theorem Blk.drew {b : Nat} {cs : Array Value} {t : TypeId} (h : Blk w b cs t) : Blk w.drew b cs t := h
theorem Blk.drewN {b : Nat} {cs : Array Value} {t : TypeId} (h : Blk w b cs t) (n : Nat) : Blk (w.drewN n) b cs t := h
end

/-- Where bytes stand that are read: what is left of them. -/
def Left (w : World) (base : Nat) (A : Option Addr) (n c : Nat) (l : List Int) : Prop := Reads w base 1 A n (nums .u8 l) ∧ IsBytes l ∧ n ≤ c ∧ (c : Int) ≤ 9223372036854775807 ∧ n ≤ 4194304
/-- The reader at block R: what is left, or the first error. -/
def Rd (w : World) (base R : Nat) (s : St) : Prop := base ≤ R ∧ ∃ (A : Option Addr) (n c : Nat) (x : Int), Blk w R #[.slice A n c, .int .i64 x] 62 ∧ (-9223372036854775808 ≤ x ∧ x ≤ 9223372036854775807) ∧ match s with
  | .ok l => x = 0 ∧ Left w base A n c l
  | .bad e => x = e ∧ e ≠ 0 ∧ n ≤ 4194304
section
variable {w w' : World} {base R : Nat} {s : St}
theorem Left.below {A : Option Addr} {n c : Nat} {l : List Int} (h : Left w base A n c l) (hb : Below base w w') : Left w' base A n c l := ⟨h.1.below hb, h.2⟩
theorem Rd.lt (h : Rd w base R s) : R < w.heap.size := by obtain ⟨_, _, _, _, _, h, _⟩ := h; exact h.lt
theorem Rd.below (h : Rd w base R s) (hb : Below (R + 1) w w') : Rd w' base R s := by
  obtain ⟨h0, A, n, c, x, h1, h2, h3⟩ := h
  refine ⟨h0, A, n, c, x, h1.below hb (by omega), h2, ?_⟩
  cases s with
  | ok l => exact ⟨h3.1, h3.2.below (hb.mono (by omega))⟩
  | bad e => exact h3
theorem Rd.same (h : Rd w base R s) (hk : ∀ k, k ≤ R → w'.heap[k]? = w.heap[k]?) : Rd w' base R s := by
  obtain ⟨h0, A, n, c, x, h1, h2, h3⟩ := h
  refine ⟨h0, A, n, c, x, h1.keep (hk R (Nat.le_refl _)), h2, ?_⟩
  cases s with
  | ok l => exact ⟨h3.1, h3.2.1.keep fun p hp => World.cell?_of_block (hk p.block (by omega)), h3.2.2⟩
  | bad e => exact h3
theorem Rd.other (h : Rd w base R s) {a : Addr} (ha : R < a.block) (u : Value) : Rd (w.setCell a u) base R s := h.same fun k hk => Below.heap_setCell _ _ _ _ (by omega)
theorem Rd.alloc (h : Rd w base R s) (o : Obj) : Rd (w.alloc o) base R s := h.same fun k hk => Below.heap_alloc _ _ _ (by have := h.lt; omega)
theorem Rd.drew (h : Rd w base R s) : Rd w.drew base R s := h.same fun _ _ => rfl
theorem Rd.drewN (h : Rd w base R s) (n : Nat) : Rd (w.drewN n) base R s := h.same fun _ _ => rfl
end

/-- What a reading call comes to: a number (that of the spec, unless something is wrong), and the reader's next state. -/
def ReadsNum (base R : Nat) (w : World) (r : Int × St) (e : Ending) (w' : World) : Prop :=
  ∃ n : Int, e = .returned (.int .i64 n) ∧ (-9223372036854775808 ≤ n ∧ n ≤ 9223372036854775807) ∧ (∀ l, r.2 = .ok l → n = r.1) ∧ Rd w' base R r.2 ∧ Only R w w'

theorem left_tail {w : World} {base b o q n c : Nat} {l : List Int} (h : Left w base (some ⟨b, o, none⟩) n c l) (hq : q ≤ n) : Left w base (if c = q then some ⟨b, o, none⟩ else some ⟨b, o + q, none⟩) (n - q) (c - q) (l.drop q) :=
  ⟨h.1.tail hq h.2.2.1, fun x hx => h.2.1 x (List.mem_of_mem_drop hx), by have := h.2.2.1; omega, by have := h.2.2.2.1; omega, by have := h.2.2.2.2; omega⟩
theorem Left.only {w w' : World} {base R : Nat} {A : Option Addr} {n c : Nat} {l : List Int} (h : Left w base A n c l) (ho : Only R w w') (hB : base ≤ R) (hs : base ≤ w.heap.size) : Left w' base A n c l := h.below (ho.to_below hB hs)
theorem Left.len {w : World} {base : Nat} {A : Option Addr} {n c : Nat} {l : List Int} (h : Left w base A n c l) : l.length = n := by have := h.1.1; simpa [nums] using this

/-- The small ones. -/
theorem fail_first (R : Nat) (e : Int) (w : World) (c1 : w.cell? ⟨R, 1, none⟩ = some (.int .i64 0)) (f1 : w.frozen? ⟨R, 1, none⟩ = false) :
    Calls Try.prog 64 #[.pointer (some ⟨R, 0, none⟩), .int .i64 e] w fun e' w' => e' = .returned (.tuple #[]) ∧ w.setCell ⟨R, 1, none⟩ (.int .i64 e) = w' := by
  go_enter Try.func64, Try.ntmps64
  go_wp2
  go_end0
  exact ⟨rfl, rfl⟩
theorem fail_later (R : Nat) (e x : Int) (w : World) (c1 : w.cell? ⟨R, 1, none⟩ = some (.int .i64 x)) (hx : (x == 0) = false) :
    Calls Try.prog 64 #[.pointer (some ⟨R, 0, none⟩), .int .i64 e] w fun e' w' => e' = .returned (.tuple #[]) ∧ w = w' := by
  go_enter Try.func64, Try.ntmps64
  go_wp2
  go_end0
  exact ⟨rfl, rfl⟩
theorem must_ok (R : Nat) (w : World) :
    Calls Try.prog 62 #[.pointer (some ⟨R, 0, none⟩), .bool true] w fun e' w' => e' = .returned (.tuple #[]) ∧ w = w' := by
  go_enter Try.func62, Try.ntmps62
  go_wp2
  go_end0
  exact ⟨rfl, rfl⟩
theorem must_first (R : Nat) (w : World) (c1 : w.cell? ⟨R, 1, none⟩ = some (.int .i64 0)) (f1 : w.frozen? ⟨R, 1, none⟩ = false) :
    Calls Try.prog 62 #[.pointer (some ⟨R, 0, none⟩), .bool false] w fun e' w' => e' = .returned (.tuple #[]) ∧ w.setCell ⟨R, 1, none⟩ (.int .i64 1) = w' := by
  have C := Lib.hid (fail_first R 1 w c1 f1)
  go_enter Try.func62, Try.ntmps62
  go_wp2_with fail
  refine Calls.mono C.out ?_
  rintro e1 w1 ⟨rfl, rfl⟩
  go_wp2
  go_end0
  exact ⟨rfl, rfl⟩
theorem must_later (R : Nat) (x : Int) (b : Bool) (w : World) (c1 : w.cell? ⟨R, 1, none⟩ = some (.int .i64 x)) (hx : (x == 0) = false) :
    Calls Try.prog 62 #[.pointer (some ⟨R, 0, none⟩), .bool b] w fun e' w' => e' = .returned (.tuple #[]) ∧ w = w' := by
  cases b with
  | true => exact must_ok R w
  | false =>
    have C := Lib.hid (fail_later R 1 x w c1 hx)
    go_enter Try.func62, Try.ntmps62
    go_wp2_with fail
    refine Calls.mono C.out ?_
    rintro e1 w1 ⟨rfl, rfl⟩
    go_wp2
    go_end0
    exact ⟨rfl, rfl⟩
/-- An error is noted. -/
theorem take_bad (R : Nat) (n m e : Int) (w : World) (c1 : w.cell? ⟨R, 1, none⟩ = some (.int .i64 0)) (f1 : w.frozen? ⟨R, 1, none⟩ = false) (he : (e != 0) = true) :
    Calls Try.prog 61 #[.pointer (some ⟨R, 0, none⟩), .int .i64 n, .int .i64 m, .int .i64 e] w fun e' w' => e' = .returned (.int .i64 0) ∧ w.setCell ⟨R, 1, none⟩ (.int .i64 e) = w' := by
  have C := Lib.hid (fail_first R e w c1 f1)
  have c2 := World.cell?_setCell_same w ⟨R, 1, none⟩ (.int .i64 e) c1
  go_enter Try.func61, Try.ntmps61
  go_wp2_with fail
  refine Calls.mono C.out ?_
  rintro e1 w1 ⟨rfl, rfl⟩
  go_wp2
  go_ret
  exact ⟨rfl, rfl⟩
/-- What was read is gone past. -/
theorem take_ok (R : Nat) (v : Int) (q b o n c : Nat) (w : World) (c0 : w.cell? ⟨R, 0, none⟩ = some (.slice (some ⟨b, o, none⟩) n c)) (f0 : w.frozen? ⟨R, 0, none⟩ = false) (c1 : w.cell? ⟨R, 1, none⟩ = some (.int .i64 0)) (f1 : w.frozen? ⟨R, 1, none⟩ = false)
    (hq : q ≤ n) (hn : n ≤ c) (_hc : (c : Int) ≤ 9223372036854775807) :
    Calls Try.prog 61 #[.pointer (some ⟨R, 0, none⟩), .int .i64 v, .int .i64 (q : Int), .int .i64 0] w fun e' w' => e' = .returned (.int .i64 v) ∧
      (w.setCell ⟨R, 1, none⟩ (.int .i64 0)).setCell ⟨R, 0, none⟩ (.slice (if c = q then some ⟨b, o, none⟩ else some ⟨b, o + q, none⟩) (n - q) (c - q)) = w' := by
  have C := Lib.hid (fail_first R 0 w c1 f1)
  have c2 := World.cell?_setCell_same w ⟨R, 1, none⟩ (.int .i64 0) c1
  have c3 : (w.setCell ⟨R, 1, none⟩ (.int .i64 0)).cell? ⟨R, 0, none⟩ = some (.slice (some ⟨b, o, none⟩) n c) := by rw [World.cell?_setCell_other _ _ _ _ (by simp)]; exact c0
  by_cases hcq : c = q
  · subst hcq
    go_enter Try.func61, Try.ntmps61
    go_wp2_with fail
    refine Calls.mono C.out ?_
    rintro e1 w1 ⟨rfl, rfl⟩
    go_wp2
    go_ret
    exact ⟨rfl, rfl⟩
  · go_enter Try.func61, Try.ntmps61
    go_wp2_with fail
    refine Calls.mono C.out ?_
    rintro e1 w1 ⟨rfl, rfl⟩
    go_wp2
    go_ret
    exact ⟨rfl, rfl⟩

theorem getN_ok0 {l : List Int} (h : IsBytes l) : (∃ n k : Int, get 0 0 l = (n, k, 0) ∧ -9223372036854775808 ≤ n ∧ n ≤ 9223372036854775807 ∧ 1 ≤ k ∧ k ≤ l.length ∧ k ≤ 9) ∨ (∃ v, get 0 0 l = (v, 0, 1)) ∨ ∃ v, get 0 0 l = (v, 0, 11) := by
  rcases get_ok0 h with ⟨n, k, h1, h2, h3⟩ | h | h
  · exact .inl ⟨n, k, h1, by omega, h3⟩
  · exact .inr (.inl ⟨_, h⟩)
  · exact .inr (.inr ⟨_, h⟩)
theorem getI_ok0 {l : List Int} (h : IsBytes l) : (∃ n k : Int, getI l = (n, k, 0) ∧ -9223372036854775808 ≤ n ∧ n ≤ 9223372036854775807 ∧ 1 ≤ k ∧ k ≤ l.length ∧ k ≤ 9) ∨ (∃ v, getI l = (v, 0, 1)) ∨ ∃ v, getI l = (v, 0, 11) := by
  unfold getI
  rcases get_ok0 h with ⟨n, k, h1, h2, h3, h4⟩ | h | h
  · rw [h1]; exact .inl ⟨zag n, k, rfl, by unfold zag; split <;> omega, by unfold zag; split <;> omega, h4⟩
  · rw [h]; exact .inr (.inl ⟨_, rfl⟩)
  · rw [h]; exact .inr (.inr ⟨_, rfl⟩)

set_option maxHeartbeats 800000 in
theorem reader_num_bad (base R : Nat) (lo hi : Int) (A : Option Addr) (n c : Nat) (l : List Int) (w : World) (hbR : base ≤ R) (hB : Blk w R #[.slice A n c, .int .i64 0] 62) (hl : Left w base A n c l)
    (v k e : Int) (he : (e != 0) = true) (heb : -9223372036854775808 ≤ e ∧ e ≤ 9223372036854775807) (hg : get 0 0 l = (v, k, e)) :
    Calls Try.prog 52 #[.pointer (some ⟨R, 0, none⟩), .int .i64 lo, .int .i64 hi] w (ReadsNum base R w (rnum lo hi (.ok l))) := by
  have c0 := hB.cell (i := 0) rfl
  have c1 := hB.cell (i := 1) rfl
  have f0 := hB.free 0
  have f1 := hB.free 1
  have hn4 := hl.2.2.2.2
  have hne : e ≠ 0 := by simpa using he
  have HR : Hid (rnum lo hi (.ok l) = (0, .bad e)) := by show _ = _; unfold rnum; simp [hg, hne]
  have C := Lib.hid ((get_num A n c base l w hl.1 hl.2.1 (by omega)).mono (gives3 hg))
  have T := Lib.hid (take_bad R v k e w c1 f1 he)
  have c2 := World.cell?_setCell_same w ⟨R, 1, none⟩ (.int .i64 e) c1
  have M := Lib.hid (fun b => must_later R e b _ c2 (by simpa using hne))
  have HB := Lib.hid hB
  clear hB hg hl c2
  by_cases hm : lo ≤ 0
  · by_cases hm2 : 0 ≤ hi
    · go_enter Try.func52, Try.ntmps52
      go_wp2_with fail
      refine Calls.mono C.out ?_
      rintro e1 w1 ⟨rfl, rfl⟩
      go_wp2_with fail
      refine Calls.mono T.out ?_
      rintro e1 w1 ⟨rfl, rfl⟩
      go_wp2_with fail
      refine Calls.mono (M.out _) ?_
      rintro e1 w1 ⟨rfl, rfl⟩
      go_wp2
      go_ret
      rw [HR.out]
      exact ⟨0, rfl, by omega, fun l hl => (by cases hl), ⟨hbR, A, n, c, e, HB.out.set 1 _, heb, rfl, hne, hn4⟩, (Only.refl _ _).setCell _ _⟩
    · go_enter Try.func52, Try.ntmps52
      go_wp2_with fail
      refine Calls.mono C.out ?_
      rintro e1 w1 ⟨rfl, rfl⟩
      go_wp2_with fail
      refine Calls.mono T.out ?_
      rintro e1 w1 ⟨rfl, rfl⟩
      go_wp2_with fail
      refine Calls.mono (M.out _) ?_
      rintro e1 w1 ⟨rfl, rfl⟩
      go_wp2
      go_ret
      rw [HR.out]
      exact ⟨0, rfl, by omega, fun l hl => (by cases hl), ⟨hbR, A, n, c, e, HB.out.set 1 _, heb, rfl, hne, hn4⟩, (Only.refl _ _).setCell _ _⟩
  · go_enter Try.func52, Try.ntmps52
    go_wp2_with fail
    refine Calls.mono C.out ?_
    rintro e1 w1 ⟨rfl, rfl⟩
    go_wp2_with fail
    refine Calls.mono T.out ?_
    rintro e1 w1 ⟨rfl, rfl⟩
    go_wp2_with fail
    refine Calls.mono (M.out _) ?_
    rintro e1 w1 ⟨rfl, rfl⟩
    go_wp2
    go_ret
    rw [HR.out]
    exact ⟨0, rfl, by omega, fun l hl => (by cases hl), ⟨hbR, A, n, c, e, HB.out.set 1 _, heb, rfl, hne, hn4⟩, (Only.refl _ _).setCell _ _⟩

set_option maxHeartbeats 800000 in
theorem reader_num_ok (base R : Nat) (lo hi : Int) (A : Option Addr) (n c : Nat) (l : List Int) (w : World) (hbR : base ≤ R) (hB : Blk w R #[.slice A n c, .int .i64 0] 62) (hl : Left w base A n c l)
    (v k : Int) (hv : -9223372036854775808 ≤ v ∧ v ≤ 9223372036854775807) (hk : 1 ≤ k ∧ k ≤ l.length) (hg : get 0 0 l = (v, k, 0)) :
    Calls Try.prog 52 #[.pointer (some ⟨R, 0, none⟩), .int .i64 lo, .int .i64 hi] w (ReadsNum base R w (rnum lo hi (.ok l))) := by
  have c0 := hB.cell (i := 0) rfl
  have c1 := hB.cell (i := 1) rfl
  have f0 := hB.free 0
  have f1 := hB.free 1
  have hn4 := hl.2.2.2.2
  have hll := hl.len
  obtain ⟨q, rfl⟩ := Int.eq_ofNat_of_zero_le (show 0 ≤ k by omega)
  have hq : q ≤ n := by omega
  obtain ⟨b, o, rfl⟩ : ∃ b o : Nat, A = some ⟨b, o, none⟩ := by obtain ⟨_, b, o, h, _⟩ := hl.1.num (i := 0) (by omega); exact ⟨b, o, h⟩
  have hlt := left_tail hl hq
  have C := Lib.hid ((get_num _ n c base l w hl.1 hl.2.1 (by omega)).mono (gives3 hg))
  have T := Lib.hid (take_ok R v q b o n c w c0 f0 c1 f1 hq hl.2.2.1 hl.2.2.2.1)
  have ho : Only R w ((w.setCell ⟨R, 1, none⟩ (.int .i64 0)).setCell ⟨R, 0, none⟩ (.slice (if c = q then some ⟨b, o, none⟩ else some ⟨b, o + q, none⟩) (n - q) (c - q))) := ((Only.refl _ _).setCell _ _).setCell _ _
  have hB2 : Blk ((w.setCell ⟨R, 1, none⟩ (.int .i64 0)).setCell ⟨R, 0, none⟩ (.slice (if c = q then some ⟨b, o, none⟩ else some ⟨b, o + q, none⟩) (n - q) (c - q))) R #[.slice (if c = q then some ⟨b, o, none⟩ else some ⟨b, o + q, none⟩) (n - q) (c - q), .int .i64 0] 62 := (hB.set 1 _).set 0 _
  have hl2 := hlt.only ho hbR (by have := hB.lt; omega)
  generalize (w.setCell ⟨R, 1, none⟩ (.int .i64 0)).setCell ⟨R, 0, none⟩ (.slice (if c = q then some ⟨b, o, none⟩ else some ⟨b, o + q, none⟩) (n - q) (c - q)) = w2 at *
  have d1 := hB2.cell (i := 1) rfl
  have g1 := hB2.free 1
  have M1 := Lib.hid (must_ok R w2)
  have M2 := Lib.hid (must_first R w2 d1 g1)
  have HB := Lib.hid hB2
  have HO := Lib.hid ho
  have HL := Lib.hid hl2
  obtain ⟨hv0, hv1⟩ := hv
  by_cases hm : lo ≤ v
  · by_cases hm2 : v ≤ hi
    · have HR : Hid (rnum lo hi (.ok l) = (v, .ok (l.drop q))) := by show _ = _; unfold rnum; simp [hg, hm, hm2]
      clear hB hB2 hg hl hlt hl2 ho hll hk
      go_enter Try.func52, Try.ntmps52
      go_wp2_with fail
      refine Calls.mono C.out ?_
      rintro e1 w1 ⟨rfl, rfl⟩
      go_wp2_with fail
      refine Calls.mono T.out ?_
      rintro e1 w1 ⟨rfl, rfl⟩
      go_wp2_with fail
      refine Calls.mono M1.out ?_
      rintro e1 w1 ⟨rfl, rfl⟩
      go_wp2
      go_ret
      rw [HR.out]
      exact ⟨v, rfl, ⟨hv0, hv1⟩, fun _ _ => rfl, ⟨hbR, _, _, _, 0, HB.out, by omega, rfl, HL.out⟩, HO.out⟩
    · have HR : Hid (rnum lo hi (.ok l) = (0, .bad 1)) := by show _ = _; unfold rnum; simp [hg, hm2]
      have dd : decide (v ≤ hi) = false := by simpa using hm2
      clear hB hB2 hg hl hlt hl2 ho hll hk
      go_enter Try.func52, Try.ntmps52
      go_wp2_with fail
      refine Calls.mono C.out ?_
      rintro e1 w1 ⟨rfl, rfl⟩
      go_wp2_with fail
      refine Calls.mono T.out ?_
      rintro e1 w1 ⟨rfl, rfl⟩
      go_wp2_with fail
      refine Calls.mono M2.out ?_
      rintro e1 w1 ⟨rfl, rfl⟩
      go_wp2
      go_ret
      rw [HR.out]
      exact ⟨v, rfl, ⟨hv0, hv1⟩, fun l hl => (by cases hl), ⟨hbR, _, _, _, 1, HB.out.set 1 _, by omega, rfl, by omega, by omega⟩, HO.out.setCell _ _⟩
  · have HR : Hid (rnum lo hi (.ok l) = (0, .bad 1)) := by show _ = _; unfold rnum; simp [hg, hm]
    clear hB hB2 hg hl hlt hl2 ho hll hk
    go_enter Try.func52, Try.ntmps52
    go_wp2_with fail
    refine Calls.mono C.out ?_
    rintro e1 w1 ⟨rfl, rfl⟩
    go_wp2_with fail
    refine Calls.mono T.out ?_
    rintro e1 w1 ⟨rfl, rfl⟩
    go_wp2_with fail
    refine Calls.mono M2.out ?_
    rintro e1 w1 ⟨rfl, rfl⟩
    go_wp2
    go_ret
    rw [HR.out]
    exact ⟨v, rfl, ⟨hv0, hv1⟩, fun l hl => (by cases hl), ⟨hbR, _, _, _, 1, HB.out.set 1 _, by omega, rfl, by omega, by omega⟩, HO.out.setCell _ _⟩

theorem reader_num (base R : Nat) (lo hi : Int) (s : St) (w : World) (h : Rd w base R s) :
    Calls Try.prog 52 #[.pointer (some ⟨R, 0, none⟩), .int .i64 lo, .int .i64 hi] w (ReadsNum base R w (rnum lo hi s)) := by
  obtain ⟨hbR, A, n, c, x, hB, ⟨hx0, hx1⟩, hs⟩ := h
  cases s with
  | bad e =>
    obtain ⟨rfl, he, hn⟩ := hs
    have c1 := hB.cell (i := 1) rfl
    have d : (x != 0) = true := by simpa using he
    have HB := Lib.hid hB
    clear hB
    go_enter Try.func52, Try.ntmps52
    go_wp2
    go_ret
    exact ⟨0, rfl, by omega, fun l hl => (by cases hl), ⟨hbR, A, n, c, x, HB.out, ⟨hx0, hx1⟩, rfl, he, hn⟩, Only.refl _ _⟩
  | ok l =>
    obtain ⟨rfl, hl⟩ := hs
    rcases getN_ok0 hl.2.1 with ⟨v, k, hg, h0, h1, h2, h3, _⟩ | ⟨v, hg⟩ | ⟨v, hg⟩
    · exact reader_num_ok base R lo hi A n c l w hbR hB hl v k ⟨by omega, h1⟩ ⟨h2, h3⟩ hg
    · exact reader_num_bad base R lo hi A n c l w hbR hB hl v 0 1 rfl (by omega) hg
    · exact reader_num_bad base R lo hi A n c l w hbR hB hl v 0 11 rfl (by omega) hg

set_option maxHeartbeats 800000 in
theorem reader_int_bad (base R : Nat) (lo hi : Int) (A : Option Addr) (n c : Nat) (l : List Int) (w : World) (hbR : base ≤ R) (hB : Blk w R #[.slice A n c, .int .i64 0] 62) (hl : Left w base A n c l)
    (v k e : Int) (he : (e != 0) = true) (heb : -9223372036854775808 ≤ e ∧ e ≤ 9223372036854775807) (hg : getI l = (v, k, e)) :
    Calls Try.prog 53 #[.pointer (some ⟨R, 0, none⟩), .int .i64 lo, .int .i64 hi] w (ReadsNum base R w (rint lo hi (.ok l))) := by
  have c0 := hB.cell (i := 0) rfl
  have c1 := hB.cell (i := 1) rfl
  have f0 := hB.free 0
  have f1 := hB.free 1
  have hn4 := hl.2.2.2.2
  have hne : e ≠ 0 := by simpa using he
  have HR : Hid (rint lo hi (.ok l) = (0, .bad e)) := by show _ = _; unfold rint; simp [hg, hne]
  have C := Lib.hid ((get_int A n c base l w hl.1 hl.2.1 (by omega)).mono (gives3 hg))
  have T := Lib.hid (take_bad R v k e w c1 f1 he)
  have c2 := World.cell?_setCell_same w ⟨R, 1, none⟩ (.int .i64 e) c1
  have M := Lib.hid (fun b => must_later R e b _ c2 (by simpa using hne))
  have HB := Lib.hid hB
  clear hB hg hl c2
  by_cases hm : lo ≤ 0
  · by_cases hm2 : 0 ≤ hi
    · go_enter Try.func53, Try.ntmps53
      go_wp2_with fail
      refine Calls.mono C.out ?_
      rintro e1 w1 ⟨rfl, rfl⟩
      go_wp2_with fail
      refine Calls.mono T.out ?_
      rintro e1 w1 ⟨rfl, rfl⟩
      go_wp2_with fail
      refine Calls.mono (M.out _) ?_
      rintro e1 w1 ⟨rfl, rfl⟩
      go_wp2
      go_ret
      rw [HR.out]
      exact ⟨0, rfl, by omega, fun l hl => (by cases hl), ⟨hbR, A, n, c, e, HB.out.set 1 _, heb, rfl, hne, hn4⟩, (Only.refl _ _).setCell _ _⟩
    · go_enter Try.func53, Try.ntmps53
      go_wp2_with fail
      refine Calls.mono C.out ?_
      rintro e1 w1 ⟨rfl, rfl⟩
      go_wp2_with fail
      refine Calls.mono T.out ?_
      rintro e1 w1 ⟨rfl, rfl⟩
      go_wp2_with fail
      refine Calls.mono (M.out _) ?_
      rintro e1 w1 ⟨rfl, rfl⟩
      go_wp2
      go_ret
      rw [HR.out]
      exact ⟨0, rfl, by omega, fun l hl => (by cases hl), ⟨hbR, A, n, c, e, HB.out.set 1 _, heb, rfl, hne, hn4⟩, (Only.refl _ _).setCell _ _⟩
  · go_enter Try.func53, Try.ntmps53
    go_wp2_with fail
    refine Calls.mono C.out ?_
    rintro e1 w1 ⟨rfl, rfl⟩
    go_wp2_with fail
    refine Calls.mono T.out ?_
    rintro e1 w1 ⟨rfl, rfl⟩
    go_wp2_with fail
    refine Calls.mono (M.out _) ?_
    rintro e1 w1 ⟨rfl, rfl⟩
    go_wp2
    go_ret
    rw [HR.out]
    exact ⟨0, rfl, by omega, fun l hl => (by cases hl), ⟨hbR, A, n, c, e, HB.out.set 1 _, heb, rfl, hne, hn4⟩, (Only.refl _ _).setCell _ _⟩

set_option maxHeartbeats 800000 in
theorem reader_int_ok (base R : Nat) (lo hi : Int) (A : Option Addr) (n c : Nat) (l : List Int) (w : World) (hbR : base ≤ R) (hB : Blk w R #[.slice A n c, .int .i64 0] 62) (hl : Left w base A n c l)
    (v k : Int) (hv : -9223372036854775808 ≤ v ∧ v ≤ 9223372036854775807) (hk : 1 ≤ k ∧ k ≤ l.length) (hg : getI l = (v, k, 0)) :
    Calls Try.prog 53 #[.pointer (some ⟨R, 0, none⟩), .int .i64 lo, .int .i64 hi] w (ReadsNum base R w (rint lo hi (.ok l))) := by
  have c0 := hB.cell (i := 0) rfl
  have c1 := hB.cell (i := 1) rfl
  have f0 := hB.free 0
  have f1 := hB.free 1
  have hn4 := hl.2.2.2.2
  have hll := hl.len
  obtain ⟨q, rfl⟩ := Int.eq_ofNat_of_zero_le (show 0 ≤ k by omega)
  have hq : q ≤ n := by omega
  obtain ⟨b, o, rfl⟩ : ∃ b o : Nat, A = some ⟨b, o, none⟩ := by obtain ⟨_, b, o, h, _⟩ := hl.1.num (i := 0) (by omega); exact ⟨b, o, h⟩
  have hlt := left_tail hl hq
  have C := Lib.hid ((get_int _ n c base l w hl.1 hl.2.1 (by omega)).mono (gives3 hg))
  have T := Lib.hid (take_ok R v q b o n c w c0 f0 c1 f1 hq hl.2.2.1 hl.2.2.2.1)
  have ho : Only R w ((w.setCell ⟨R, 1, none⟩ (.int .i64 0)).setCell ⟨R, 0, none⟩ (.slice (if c = q then some ⟨b, o, none⟩ else some ⟨b, o + q, none⟩) (n - q) (c - q))) := ((Only.refl _ _).setCell _ _).setCell _ _
  have hB2 : Blk ((w.setCell ⟨R, 1, none⟩ (.int .i64 0)).setCell ⟨R, 0, none⟩ (.slice (if c = q then some ⟨b, o, none⟩ else some ⟨b, o + q, none⟩) (n - q) (c - q))) R #[.slice (if c = q then some ⟨b, o, none⟩ else some ⟨b, o + q, none⟩) (n - q) (c - q), .int .i64 0] 62 := (hB.set 1 _).set 0 _
  have hl2 := hlt.only ho hbR (by have := hB.lt; omega)
  generalize (w.setCell ⟨R, 1, none⟩ (.int .i64 0)).setCell ⟨R, 0, none⟩ (.slice (if c = q then some ⟨b, o, none⟩ else some ⟨b, o + q, none⟩) (n - q) (c - q)) = w2 at *
  have d1 := hB2.cell (i := 1) rfl
  have g1 := hB2.free 1
  have M1 := Lib.hid (must_ok R w2)
  have M2 := Lib.hid (must_first R w2 d1 g1)
  have HB := Lib.hid hB2
  have HO := Lib.hid ho
  have HL := Lib.hid hl2
  obtain ⟨hv0, hv1⟩ := hv
  by_cases hm : lo ≤ v
  · by_cases hm2 : v ≤ hi
    · have HR : Hid (rint lo hi (.ok l) = (v, .ok (l.drop q))) := by show _ = _; unfold rint; simp [hg, hm, hm2]
      clear hB hB2 hg hl hlt hl2 ho hll hk
      go_enter Try.func53, Try.ntmps53
      go_wp2_with fail
      refine Calls.mono C.out ?_
      rintro e1 w1 ⟨rfl, rfl⟩
      go_wp2_with fail
      refine Calls.mono T.out ?_
      rintro e1 w1 ⟨rfl, rfl⟩
      go_wp2_with fail
      refine Calls.mono M1.out ?_
      rintro e1 w1 ⟨rfl, rfl⟩
      go_wp2
      go_ret
      rw [HR.out]
      exact ⟨v, rfl, ⟨hv0, hv1⟩, fun _ _ => rfl, ⟨hbR, _, _, _, 0, HB.out, by omega, rfl, HL.out⟩, HO.out⟩
    · have HR : Hid (rint lo hi (.ok l) = (0, .bad 1)) := by show _ = _; unfold rint; simp [hg, hm2]
      have dd : decide (v ≤ hi) = false := by simpa using hm2
      clear hB hB2 hg hl hlt hl2 ho hll hk
      go_enter Try.func53, Try.ntmps53
      go_wp2_with fail
      refine Calls.mono C.out ?_
      rintro e1 w1 ⟨rfl, rfl⟩
      go_wp2_with fail
      refine Calls.mono T.out ?_
      rintro e1 w1 ⟨rfl, rfl⟩
      go_wp2_with fail
      refine Calls.mono M2.out ?_
      rintro e1 w1 ⟨rfl, rfl⟩
      go_wp2
      go_ret
      rw [HR.out]
      exact ⟨v, rfl, ⟨hv0, hv1⟩, fun l hl => (by cases hl), ⟨hbR, _, _, _, 1, HB.out.set 1 _, by omega, rfl, by omega, by omega⟩, HO.out.setCell _ _⟩
  · have HR : Hid (rint lo hi (.ok l) = (0, .bad 1)) := by show _ = _; unfold rint; simp [hg, hm]
    clear hB hB2 hg hl hlt hl2 ho hll hk
    go_enter Try.func53, Try.ntmps53
    go_wp2_with fail
    refine Calls.mono C.out ?_
    rintro e1 w1 ⟨rfl, rfl⟩
    go_wp2_with fail
    refine Calls.mono T.out ?_
    rintro e1 w1 ⟨rfl, rfl⟩
    go_wp2_with fail
    refine Calls.mono M2.out ?_
    rintro e1 w1 ⟨rfl, rfl⟩
    go_wp2
    go_ret
    rw [HR.out]
    exact ⟨v, rfl, ⟨hv0, hv1⟩, fun l hl => (by cases hl), ⟨hbR, _, _, _, 1, HB.out.set 1 _, by omega, rfl, by omega, by omega⟩, HO.out.setCell _ _⟩

theorem reader_int (base R : Nat) (lo hi : Int) (s : St) (w : World) (h : Rd w base R s) :
    Calls Try.prog 53 #[.pointer (some ⟨R, 0, none⟩), .int .i64 lo, .int .i64 hi] w (ReadsNum base R w (rint lo hi s)) := by
  obtain ⟨hbR, A, n, c, x, hB, ⟨hx0, hx1⟩, hs⟩ := h
  cases s with
  | bad e =>
    obtain ⟨rfl, he, hn⟩ := hs
    have c1 := hB.cell (i := 1) rfl
    have d : (x != 0) = true := by simpa using he
    have HB := Lib.hid hB
    clear hB
    go_enter Try.func53, Try.ntmps53
    go_wp2
    go_ret
    exact ⟨0, rfl, by omega, fun l hl => (by cases hl), ⟨hbR, A, n, c, x, HB.out, ⟨hx0, hx1⟩, rfl, he, hn⟩, Only.refl _ _⟩
  | ok l =>
    obtain ⟨rfl, hl⟩ := hs
    rcases getI_ok0 hl.2.1 with ⟨v, k, hg, h0, h1, h2, h3, _⟩ | ⟨v, hg⟩ | ⟨v, hg⟩
    · exact reader_int_ok base R lo hi A n c l w hbR hB hl v k ⟨by omega, h1⟩ ⟨h2, h3⟩ hg
    · exact reader_int_bad base R lo hi A n c l w hbR hB hl v 0 1 rfl (by omega) hg
    · exact reader_int_bad base R lo hi A n c l w hbR hB hl v 0 11 rfl (by omega) hg
end Go.Proofs.Ytneigplmgellcaa
