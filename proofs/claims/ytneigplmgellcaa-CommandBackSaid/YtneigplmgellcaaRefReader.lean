/- The page's reader of commands: where it stands, what each of its calls comes to. -/
import Derived.Test.YtneigplmgellcaaCmdParse
namespace Go.Proofs.Ytneigplmgellcaa
set_option maxRecDepth 20000
open Go.RowKit

/-- The page's reader at block R: what is left, or the first error. -/
def Rr (w : World) (base R n : Nat) (s : St) : Prop := base ≤ R ∧ ∃ (A : Option Addr) (c a : Nat) (x : Int) (f : List Int), Blk w R #[.slice A n c, .int .i64 (a : Int), .int .i64 x] 66 ∧ Left w base A n c f ∧ (A = none → c = 0) ∧ a ≤ n ∧ (-9223372036854775808 ≤ x ∧ x ≤ 9223372036854775807) ∧ match s with
  | .ok l => x = 0 ∧ l = f.drop a
  | .bad e => x = e ∧ e ≠ 0
section
variable {w w' : World} {base R n : Nat} {s : St}
theorem Rr.lt (h : Rr w base R n s) : R < w.heap.size := by obtain ⟨_, _, _, _, _, _, h, _⟩ := h; exact h.lt
theorem Left.same {A : Option Addr} {c : Nat} {l : List Int} (h : Left w base A n c l) (hB : base ≤ R) (hk : ∀ k, k ≤ R → w'.heap[k]? = w.heap[k]?) : Left w' base A n c l := ⟨h.1.keep fun p hp => World.cell?_of_block (hk p.block (by omega)), h.2⟩
theorem Rr.same (h : Rr w base R n s) (hk : ∀ k, k ≤ R → w'.heap[k]? = w.heap[k]?) : Rr w' base R n s := by
  obtain ⟨h0, A, c, a, x, f, h1, h2, h3⟩ := h
  exact ⟨h0, A, c, a, x, f, h1.keep (hk R (Nat.le_refl _)), h2.same h0 hk, h3⟩
theorem Rr.below (h : Rr w base R n s) (hb : Below (R + 1) w w') : Rr w' base R n s := h.same fun k hk => hb.block k (by omega)
theorem Rr.other (h : Rr w base R n s) {a : Addr} (ha : R < a.block) (u : Value) : Rr (w.setCell a u) base R n s := h.same fun k hk => Below.heap_setCell _ _ _ _ (by omega)
theorem Rr.alloc (h : Rr w base R n s) (o : Obj) : Rr (w.alloc o) base R n s := h.same fun k hk => Below.heap_alloc _ _ _ (by have := h.lt; omega)
end
def RefNum (base R n0 : Nat) (w : World) (r : Int × St) (e : Ending) (w' : World) : Prop :=
  ∃ n : Int, e = .returned (.int .i64 n) ∧ (-9223372036854775808 ≤ n ∧ n ≤ 9223372036854775807) ∧ (∀ l, r.2 = .ok l → n = r.1) ∧ Rr w' base R n0 r.2 ∧ Only R w w'
theorem drop_drop' (l : List Int) (a q : Nat) : (l.drop a).drop q = l.drop (a + q) := by rw [List.drop_drop]
theorem left_all {w : World} {base n c a : Nat} {A : Option Addr} {f : List Int} (h : Left w base A n c f) (h0 : A = none → c = 0) (ha : a ≤ n) : ∃ A', A' = (match A with | none => none | some ad => if c = a then some ad else some ⟨ad.block, ad.off + a, ad.spot⟩) ∧ Left w base A' (n - a) (c - a) (f.drop a) := by
  cases A with
  | none =>
    have := h0 rfl
    have hn : n = 0 := by have := h.2.2.1; omega
    subst hn
    have : a = 0 := by omega
    subst this
    exact ⟨none, rfl, by simpa using h⟩
  | some ad =>
    refine ⟨_, rfl, ?_⟩
    rcases Nat.eq_zero_or_pos n with h1 | h1
    · subst h1
      have : a = 0 := by omega
      subst this
      have hl := h.len
      have : f = [] := List.eq_nil_of_length_eq_zero hl
      subst this
      exact ⟨⟨rfl, fun h => absurd h (by omega)⟩, fun x hx => (by cases hx), by omega, h.2.2.2.1, by omega⟩
    · obtain ⟨_, b, o, h2, _⟩ := h.1.num (i := 0) h1
      injection h2 with h2
      subst h2
      exact left_tail h ha


set_option maxHeartbeats 1600000 in
set_option maxRecDepth 20000 in
theorem ref_rnum (base R n : Nat) (lo hi : Int) (s : St) (w : World) (h : Rr w base R n s) :
    Calls Try.prog 41 #[.pointer (some ⟨R, 0, none⟩), .int .i64 lo, .int .i64 hi] w (RefNum base R n w (rnum lo hi s)) := by
  obtain ⟨hbR, A, c, a, x, f, hB, hl, hA0, han, ⟨hx0, hx1⟩, hs⟩ := h
  have c0 := hB.cell (i := 0) rfl
  have c1 := hB.cell (i := 1) rfl
  have c2 := hB.cell (i := 2) rfl
  have f1 := hB.free 1
  have f2 := hB.free 2
  have hn4 := hl.2.2.2.2
  have hRl := hB.lt
  cases s with
  | bad e =>
    obtain ⟨rfl, he⟩ := hs
    have d : (x != 0) = true := by simpa using he
    have HB := Lib.hid hB
    have HL := Lib.hid hl
    have HA := Lib.hid hA0
    clear hB hl hA0
    go_enter Try.func41, Try.ntmps41
    go_wp2_with fail
    go_ret
    exact ⟨0, rfl, by omega, fun l hl => (by cases hl), ⟨hbR, A, c, a, x, f, HB.out, HL.out, HA.out, han, ⟨hx0, hx1⟩, rfl, he⟩, Only.refl _ _⟩
  | ok l =>
    obtain ⟨rfl, rfl⟩ := hs
    obtain ⟨A', hA', hl'⟩ := left_all hl hA0 han
    have G := fun q => ref_get_num A' (n - a) (c - a) base (f.drop a) (w.drewN q) (hl'.1.drewN q) hl'.2.1 (by omega)
    have hlen : (f.drop a).length = n - a := hl'.len
    have hAn : A = none → n = 0 ∧ a = 0 ∧ c = 0 := fun h => by have h1 := hA0 h; have := hl.2.2.1; omega
    have hnc := hl.2.2.1
    have hcm := hl.2.2.2.1
    have HB := Lib.hid hB
    have HL := Lib.hid hl
    have HA := Lib.hid hA0
    have ok := getN_ok0 hl'.2.1
    rcases ok with ⟨v, k, hg, h0, h1, h2, h3, _⟩ | ⟨v, hg⟩ | ⟨v, hg⟩
    · obtain ⟨q, rfl⟩ := Int.eq_ofNat_of_zero_le (show 0 ≤ k by omega)
      have hq : a + q ≤ n := by omega
      have C := Lib.hid (fun m => quiet_of_same2 (n := m) ((G m).mono (gives3 hg)))
      obtain ⟨b, o, rfl⟩ : ∃ b o : Nat, A = some ⟨b, o, none⟩ := by obtain ⟨_, b, o, h, _⟩ := hl.1.num (i := 0) (by omega); exact ⟨b, o, h⟩
      simp only at hA'
      by_cases hm : lo ≤ v
      · by_cases hm2 : v ≤ hi
        · have HR : Hid (rnum lo hi (.ok (f.drop a)) = (v, .ok ((f.drop a).drop q))) := by show _ = _; unfold rnum; simp [hg, hm, hm2]
          have dd : decide (hi < v) = false := by simp; omega
          have dd2 : decide (v < lo) = false := by simp; omega
          clear hg hl hl' hB hA0 G hlen hAn
          by_cases hca : c = a
          · exact absurd hq (by omega)
          · rw [if_neg hca] at hA'
            subst hA'
            go_enter Try.func41, Try.ntmps41
            go_wp2_with fail
            go_quiet (first | (go_at_call 55; exact C.out _))
            go_wp2_with fail
            go_ret
            rw [HR.out]
            have ho : Only R w ((w.drewN nq).setCell ⟨R, 1, none⟩ (.int .i64 ((a : Int) + (q : Int)))) := ((Only.refl _ _).drewN _).setCell _ _
            refine ⟨v, rfl, ⟨h0, h1⟩, fun _ _ => rfl, ⟨hbR, some ⟨b, o, none⟩, c, a + q, 0, f, ?_, HL.out.only ho hbR (by omega), HA.out, hq, by omega, rfl, drop_drop' _ _ _⟩, ho⟩
            have := (HB.out.drewN nq).set 1 (.int .i64 ((a : Int) + (q : Int)))
            rw [show ((a + q : Nat) : Int) = (a : Int) + (q : Int) by omega]
            exact this
        · have HR : Hid (rnum lo hi (.ok (f.drop a)) = (0, .bad 1)) := by show _ = _; unfold rnum; simp [hg, hm2]
          have dd : decide (hi < v) = true := by simp; omega
          have dd2 : decide (v < lo) = false := by simp; omega
          clear hg hl hl' hB hA0 G hlen hAn
          by_cases hca : c = a
          · exact absurd hq (by omega)
          · rw [if_neg hca] at hA'
            subst hA'
            go_enter Try.func41, Try.ntmps41
            go_wp2_with fail
            go_quiet (first | (go_at_call 55; exact C.out _))
            go_wp2_with fail
            go_ret
            rw [HR.out]
            have ho : Only R w ((w.drewN nq).setCell ⟨R, 2, none⟩ (.int .i64 1)) := ((Only.refl _ _).drewN _).setCell _ _
            exact ⟨0, rfl, by omega, fun l hl => (by cases hl), ⟨hbR, some ⟨b, o, none⟩, c, a, 1, f, (HB.out.drewN nq).set 2 _, HL.out.only ho hbR (by omega), HA.out, han, by omega, rfl, by omega⟩, ho⟩
      · have HR : Hid (rnum lo hi (.ok (f.drop a)) = (0, .bad 1)) := by show _ = _; unfold rnum; simp [hg, hm]
        have dd2 : decide (v < lo) = true := by simp; omega
        clear hg hl hl' hB hA0 G hlen hAn
        by_cases hca : c = a
        · exact absurd hq (by omega)
        · rw [if_neg hca] at hA'
          subst hA'
          go_enter Try.func41, Try.ntmps41
          go_wp2_with fail
          go_quiet (first | (go_at_call 55; exact C.out _))
          go_wp2_with fail
          go_ret
          rw [HR.out]
          have ho : Only R w ((w.drewN nq).setCell ⟨R, 2, none⟩ (.int .i64 1)) := ((Only.refl _ _).drewN _).setCell _ _
          exact ⟨0, rfl, by omega, fun l hl => (by cases hl), ⟨hbR, some ⟨b, o, none⟩, c, a, 1, f, (HB.out.drewN nq).set 2 _, HL.out.only ho hbR (by omega), HA.out, han, by omega, rfl, by omega⟩, ho⟩
    · have C := Lib.hid (fun m => quiet_of_same2 (n := m) ((G m).mono (gives3 hg)))
      have HR : Hid (rnum lo hi (.ok (f.drop a)) = (0, .bad 1)) := by show _ = _; unfold rnum; simp [hg]
      have fin : Hid (∀ nq, RefNum base R n w (rnum lo hi (.ok (f.drop a))) (.returned (.int .i64 0)) ((w.drewN nq).setCell ⟨R, 2, none⟩ (.int .i64 1))) := by
        intro nq
        rw [HR.out]
        have ho : Only R w ((w.drewN nq).setCell ⟨R, 2, none⟩ (.int .i64 1)) := ((Only.refl _ _).drewN _).setCell _ _
        exact ⟨0, rfl, by omega, fun l hl => (by cases hl), ⟨hbR, A, c, a, 1, f, (HB.out.drewN nq).set 2 _, HL.out.only ho hbR (by omega), HA.out, han, by omega, rfl, by omega⟩, ho⟩
      by_cases hn0 : n = 0
      · subst hn0
        obtain rfl : a = 0 := by omega
        have hf : f = [] := List.eq_nil_of_length_eq_zero hl.len
        subst hf
        have C0 := Lib.hid (fun A2 c2 m => quiet_of_same2 (n := m) ((ref_get_num A2 0 c2 base [] (w.drewN m) ⟨rfl, fun h => absurd h (by omega)⟩ (fun x hx => by cases hx) (by omega)).mono (gives3 hg)))
        clear hg hl hl' hB hA0 G hlen HR C hA' HB HL HA
        cases A with
        | none =>
          obtain ⟨_, _, rfl⟩ := hAn rfl
          clear hAn
          go_enter Try.func41, Try.ntmps41
          go_wp2_with fail
          go_quiet (first | (go_at_call 55; exact C0.out _ _ _))
          go_wp2_with fail
          go_ret
          exact fin.out _
        | some ad =>
          clear hAn
          by_cases hc0 : c = 0
          · subst hc0
            go_enter Try.func41, Try.ntmps41
            go_wp2_with fail
            go_quiet (first | (go_at_call 55; exact C0.out _ _ _))
            go_wp2_with fail
            go_ret
            exact fin.out _
          · go_enter Try.func41, Try.ntmps41
            go_wp2_with fail
            go_quiet (first | (go_at_call 55; exact C0.out _ _ _))
            go_wp2_with fail
            go_ret
            exact fin.out _
      · obtain ⟨b, o, rfl⟩ : ∃ b o : Nat, A = some ⟨b, o, none⟩ := by obtain ⟨_, b, o, h, _⟩ := hl.1.num (i := 0) (by omega); exact ⟨b, o, h⟩
        simp only at hA'
        clear hg hl hl' hB hA0 G hlen HR hAn HB HL HA
        by_cases hca : c = a
        · subst hca
          obtain rfl : n = c := by omega
          rw [if_pos rfl] at hA'
          subst hA'
          rw [Nat.sub_self] at C
          go_enter Try.func41, Try.ntmps41
          go_wp2_with fail
          go_quiet (first | (go_at_call 55; exact C.out _))
          go_wp2_with fail
          go_ret
          exact fin.out _
        · rw [if_neg hca] at hA'
          subst hA'
          go_enter Try.func41, Try.ntmps41
          go_wp2_with fail
          go_quiet (first | (go_at_call 55; exact C.out _))
          go_wp2_with fail
          go_ret
          exact fin.out _
    · have C := Lib.hid (fun m => quiet_of_same2 (n := m) ((G m).mono (gives3 hg)))
      have HR : Hid (rnum lo hi (.ok (f.drop a)) = (0, .bad 11)) := by show _ = _; unfold rnum; simp [hg]
      have fin : Hid (∀ nq, RefNum base R n w (rnum lo hi (.ok (f.drop a))) (.returned (.int .i64 0)) ((w.drewN nq).setCell ⟨R, 2, none⟩ (.int .i64 11))) := by
        intro nq
        rw [HR.out]
        have ho : Only R w ((w.drewN nq).setCell ⟨R, 2, none⟩ (.int .i64 11)) := ((Only.refl _ _).drewN _).setCell _ _
        exact ⟨0, rfl, by omega, fun l hl => (by cases hl), ⟨hbR, A, c, a, 11, f, (HB.out.drewN nq).set 2 _, HL.out.only ho hbR (by omega), HA.out, han, by omega, rfl, by omega⟩, ho⟩
      by_cases hn0 : n = 0
      · subst hn0
        obtain rfl : a = 0 := by omega
        have hf : f = [] := List.eq_nil_of_length_eq_zero hl.len
        subst hf
        have C0 := Lib.hid (fun A2 c2 m => quiet_of_same2 (n := m) ((ref_get_num A2 0 c2 base [] (w.drewN m) ⟨rfl, fun h => absurd h (by omega)⟩ (fun x hx => by cases hx) (by omega)).mono (gives3 hg)))
        clear hg hl hl' hB hA0 G hlen HR C hA' HB HL HA
        cases A with
        | none =>
          obtain ⟨_, _, rfl⟩ := hAn rfl
          clear hAn
          go_enter Try.func41, Try.ntmps41
          go_wp2_with fail
          go_quiet (first | (go_at_call 55; exact C0.out _ _ _))
          go_wp2_with fail
          go_ret
          exact fin.out _
        | some ad =>
          clear hAn
          by_cases hc0 : c = 0
          · subst hc0
            go_enter Try.func41, Try.ntmps41
            go_wp2_with fail
            go_quiet (first | (go_at_call 55; exact C0.out _ _ _))
            go_wp2_with fail
            go_ret
            exact fin.out _
          · go_enter Try.func41, Try.ntmps41
            go_wp2_with fail
            go_quiet (first | (go_at_call 55; exact C0.out _ _ _))
            go_wp2_with fail
            go_ret
            exact fin.out _
      · obtain ⟨b, o, rfl⟩ : ∃ b o : Nat, A = some ⟨b, o, none⟩ := by obtain ⟨_, b, o, h, _⟩ := hl.1.num (i := 0) (by omega); exact ⟨b, o, h⟩
        simp only at hA'
        clear hg hl hl' hB hA0 G hlen HR hAn HB HL HA
        by_cases hca : c = a
        · subst hca
          obtain rfl : n = c := by omega
          rw [if_pos rfl] at hA'
          subst hA'
          rw [Nat.sub_self] at C
          go_enter Try.func41, Try.ntmps41
          go_wp2_with fail
          go_quiet (first | (go_at_call 55; exact C.out _))
          go_wp2_with fail
          go_ret
          exact fin.out _
        · rw [if_neg hca] at hA'
          subst hA'
          go_enter Try.func41, Try.ntmps41
          go_wp2_with fail
          go_quiet (first | (go_at_call 55; exact C.out _))
          go_wp2_with fail
          go_ret
          exact fin.out _

set_option maxHeartbeats 1600000 in
set_option maxRecDepth 20000 in
theorem ref_rint (base R n : Nat) (lo hi : Int) (s : St) (w : World) (h : Rr w base R n s) :
    Calls Try.prog 42 #[.pointer (some ⟨R, 0, none⟩), .int .i64 lo, .int .i64 hi] w (RefNum base R n w (rint lo hi s)) := by
  obtain ⟨hbR, A, c, a, x, f, hB, hl, hA0, han, ⟨hx0, hx1⟩, hs⟩ := h
  have c0 := hB.cell (i := 0) rfl
  have c1 := hB.cell (i := 1) rfl
  have c2 := hB.cell (i := 2) rfl
  have f1 := hB.free 1
  have f2 := hB.free 2
  have hn4 := hl.2.2.2.2
  have hRl := hB.lt
  cases s with
  | bad e =>
    obtain ⟨rfl, he⟩ := hs
    have d : (x != 0) = true := by simpa using he
    have HB := Lib.hid hB
    have HL := Lib.hid hl
    have HA := Lib.hid hA0
    clear hB hl hA0
    go_enter Try.func42, Try.ntmps42
    go_wp2_with fail
    go_ret
    exact ⟨0, rfl, by omega, fun l hl => (by cases hl), ⟨hbR, A, c, a, x, f, HB.out, HL.out, HA.out, han, ⟨hx0, hx1⟩, rfl, he⟩, Only.refl _ _⟩
  | ok l =>
    obtain ⟨rfl, rfl⟩ := hs
    obtain ⟨A', hA', hl'⟩ := left_all hl hA0 han
    have G := fun q => ref_get_int A' (n - a) (c - a) base (f.drop a) (w.drewN q) (hl'.1.drewN q) hl'.2.1 (by omega)
    have hlen : (f.drop a).length = n - a := hl'.len
    have hAn : A = none → n = 0 ∧ a = 0 ∧ c = 0 := fun h => by have h1 := hA0 h; have := hl.2.2.1; omega
    have hnc := hl.2.2.1
    have hcm := hl.2.2.2.1
    have HB := Lib.hid hB
    have HL := Lib.hid hl
    have HA := Lib.hid hA0
    have ok := getI_ok0 hl'.2.1
    rcases ok with ⟨v, k, hg, h0, h1, h2, h3, _⟩ | ⟨v, hg⟩ | ⟨v, hg⟩
    · obtain ⟨q, rfl⟩ := Int.eq_ofNat_of_zero_le (show 0 ≤ k by omega)
      have hq : a + q ≤ n := by omega
      have C := Lib.hid (fun m => quiet_of_same2 (n := m) ((G m).mono (gives3 hg)))
      obtain ⟨b, o, rfl⟩ : ∃ b o : Nat, A = some ⟨b, o, none⟩ := by obtain ⟨_, b, o, h, _⟩ := hl.1.num (i := 0) (by omega); exact ⟨b, o, h⟩
      simp only at hA'
      by_cases hm : lo ≤ v
      · by_cases hm2 : v ≤ hi
        · have HR : Hid (rint lo hi (.ok (f.drop a)) = (v, .ok ((f.drop a).drop q))) := by show _ = _; unfold rint; simp [hg, hm, hm2]
          have dd : decide (hi < v) = false := by simp; omega
          have dd2 : decide (v < lo) = false := by simp; omega
          clear hg hl hl' hB hA0 G hlen hAn
          by_cases hca : c = a
          · exact absurd hq (by omega)
          · rw [if_neg hca] at hA'
            subst hA'
            go_enter Try.func42, Try.ntmps42
            go_wp2_with fail
            go_quiet (first | (go_at_call 56; exact C.out _))
            go_wp2_with fail
            go_ret
            rw [HR.out]
            have ho : Only R w ((w.drewN nq).setCell ⟨R, 1, none⟩ (.int .i64 ((a : Int) + (q : Int)))) := ((Only.refl _ _).drewN _).setCell _ _
            refine ⟨v, rfl, ⟨h0, h1⟩, fun _ _ => rfl, ⟨hbR, some ⟨b, o, none⟩, c, a + q, 0, f, ?_, HL.out.only ho hbR (by omega), HA.out, hq, by omega, rfl, drop_drop' _ _ _⟩, ho⟩
            have := (HB.out.drewN nq).set 1 (.int .i64 ((a : Int) + (q : Int)))
            rw [show ((a + q : Nat) : Int) = (a : Int) + (q : Int) by omega]
            exact this
        · have HR : Hid (rint lo hi (.ok (f.drop a)) = (0, .bad 1)) := by show _ = _; unfold rint; simp [hg, hm2]
          have dd : decide (hi < v) = true := by simp; omega
          have dd2 : decide (v < lo) = false := by simp; omega
          clear hg hl hl' hB hA0 G hlen hAn
          by_cases hca : c = a
          · exact absurd hq (by omega)
          · rw [if_neg hca] at hA'
            subst hA'
            go_enter Try.func42, Try.ntmps42
            go_wp2_with fail
            go_quiet (first | (go_at_call 56; exact C.out _))
            go_wp2_with fail
            go_ret
            rw [HR.out]
            have ho : Only R w ((w.drewN nq).setCell ⟨R, 2, none⟩ (.int .i64 1)) := ((Only.refl _ _).drewN _).setCell _ _
            exact ⟨0, rfl, by omega, fun l hl => (by cases hl), ⟨hbR, some ⟨b, o, none⟩, c, a, 1, f, (HB.out.drewN nq).set 2 _, HL.out.only ho hbR (by omega), HA.out, han, by omega, rfl, by omega⟩, ho⟩
      · have HR : Hid (rint lo hi (.ok (f.drop a)) = (0, .bad 1)) := by show _ = _; unfold rint; simp [hg, hm]
        have dd2 : decide (v < lo) = true := by simp; omega
        clear hg hl hl' hB hA0 G hlen hAn
        by_cases hca : c = a
        · exact absurd hq (by omega)
        · rw [if_neg hca] at hA'
          subst hA'
          go_enter Try.func42, Try.ntmps42
          go_wp2_with fail
          go_quiet (first | (go_at_call 56; exact C.out _))
          go_wp2_with fail
          go_ret
          rw [HR.out]
          have ho : Only R w ((w.drewN nq).setCell ⟨R, 2, none⟩ (.int .i64 1)) := ((Only.refl _ _).drewN _).setCell _ _
          exact ⟨0, rfl, by omega, fun l hl => (by cases hl), ⟨hbR, some ⟨b, o, none⟩, c, a, 1, f, (HB.out.drewN nq).set 2 _, HL.out.only ho hbR (by omega), HA.out, han, by omega, rfl, by omega⟩, ho⟩
    · have C := Lib.hid (fun m => quiet_of_same2 (n := m) ((G m).mono (gives3 hg)))
      have HR : Hid (rint lo hi (.ok (f.drop a)) = (0, .bad 1)) := by show _ = _; unfold rint; simp [hg]
      have fin : Hid (∀ nq, RefNum base R n w (rint lo hi (.ok (f.drop a))) (.returned (.int .i64 0)) ((w.drewN nq).setCell ⟨R, 2, none⟩ (.int .i64 1))) := by
        intro nq
        rw [HR.out]
        have ho : Only R w ((w.drewN nq).setCell ⟨R, 2, none⟩ (.int .i64 1)) := ((Only.refl _ _).drewN _).setCell _ _
        exact ⟨0, rfl, by omega, fun l hl => (by cases hl), ⟨hbR, A, c, a, 1, f, (HB.out.drewN nq).set 2 _, HL.out.only ho hbR (by omega), HA.out, han, by omega, rfl, by omega⟩, ho⟩
      by_cases hn0 : n = 0
      · subst hn0
        obtain rfl : a = 0 := by omega
        have hf : f = [] := List.eq_nil_of_length_eq_zero hl.len
        subst hf
        have C0 := Lib.hid (fun A2 c2 m => quiet_of_same2 (n := m) ((ref_get_int A2 0 c2 base [] (w.drewN m) ⟨rfl, fun h => absurd h (by omega)⟩ (fun x hx => by cases hx) (by omega)).mono (gives3 hg)))
        clear hg hl hl' hB hA0 G hlen HR C hA' HB HL HA
        cases A with
        | none =>
          obtain ⟨_, _, rfl⟩ := hAn rfl
          clear hAn
          go_enter Try.func42, Try.ntmps42
          go_wp2_with fail
          go_quiet (first | (go_at_call 56; exact C0.out _ _ _))
          go_wp2_with fail
          go_ret
          exact fin.out _
        | some ad =>
          clear hAn
          by_cases hc0 : c = 0
          · subst hc0
            go_enter Try.func42, Try.ntmps42
            go_wp2_with fail
            go_quiet (first | (go_at_call 56; exact C0.out _ _ _))
            go_wp2_with fail
            go_ret
            exact fin.out _
          · go_enter Try.func42, Try.ntmps42
            go_wp2_with fail
            go_quiet (first | (go_at_call 56; exact C0.out _ _ _))
            go_wp2_with fail
            go_ret
            exact fin.out _
      · obtain ⟨b, o, rfl⟩ : ∃ b o : Nat, A = some ⟨b, o, none⟩ := by obtain ⟨_, b, o, h, _⟩ := hl.1.num (i := 0) (by omega); exact ⟨b, o, h⟩
        simp only at hA'
        clear hg hl hl' hB hA0 G hlen HR hAn HB HL HA
        by_cases hca : c = a
        · subst hca
          obtain rfl : n = c := by omega
          rw [if_pos rfl] at hA'
          subst hA'
          rw [Nat.sub_self] at C
          go_enter Try.func42, Try.ntmps42
          go_wp2_with fail
          go_quiet (first | (go_at_call 56; exact C.out _))
          go_wp2_with fail
          go_ret
          exact fin.out _
        · rw [if_neg hca] at hA'
          subst hA'
          go_enter Try.func42, Try.ntmps42
          go_wp2_with fail
          go_quiet (first | (go_at_call 56; exact C.out _))
          go_wp2_with fail
          go_ret
          exact fin.out _
    · have C := Lib.hid (fun m => quiet_of_same2 (n := m) ((G m).mono (gives3 hg)))
      have HR : Hid (rint lo hi (.ok (f.drop a)) = (0, .bad 11)) := by show _ = _; unfold rint; simp [hg]
      have fin : Hid (∀ nq, RefNum base R n w (rint lo hi (.ok (f.drop a))) (.returned (.int .i64 0)) ((w.drewN nq).setCell ⟨R, 2, none⟩ (.int .i64 11))) := by
        intro nq
        rw [HR.out]
        have ho : Only R w ((w.drewN nq).setCell ⟨R, 2, none⟩ (.int .i64 11)) := ((Only.refl _ _).drewN _).setCell _ _
        exact ⟨0, rfl, by omega, fun l hl => (by cases hl), ⟨hbR, A, c, a, 11, f, (HB.out.drewN nq).set 2 _, HL.out.only ho hbR (by omega), HA.out, han, by omega, rfl, by omega⟩, ho⟩
      by_cases hn0 : n = 0
      · subst hn0
        obtain rfl : a = 0 := by omega
        have hf : f = [] := List.eq_nil_of_length_eq_zero hl.len
        subst hf
        have C0 := Lib.hid (fun A2 c2 m => quiet_of_same2 (n := m) ((ref_get_int A2 0 c2 base [] (w.drewN m) ⟨rfl, fun h => absurd h (by omega)⟩ (fun x hx => by cases hx) (by omega)).mono (gives3 hg)))
        clear hg hl hl' hB hA0 G hlen HR C hA' HB HL HA
        cases A with
        | none =>
          obtain ⟨_, _, rfl⟩ := hAn rfl
          clear hAn
          go_enter Try.func42, Try.ntmps42
          go_wp2_with fail
          go_quiet (first | (go_at_call 56; exact C0.out _ _ _))
          go_wp2_with fail
          go_ret
          exact fin.out _
        | some ad =>
          clear hAn
          by_cases hc0 : c = 0
          · subst hc0
            go_enter Try.func42, Try.ntmps42
            go_wp2_with fail
            go_quiet (first | (go_at_call 56; exact C0.out _ _ _))
            go_wp2_with fail
            go_ret
            exact fin.out _
          · go_enter Try.func42, Try.ntmps42
            go_wp2_with fail
            go_quiet (first | (go_at_call 56; exact C0.out _ _ _))
            go_wp2_with fail
            go_ret
            exact fin.out _
      · obtain ⟨b, o, rfl⟩ : ∃ b o : Nat, A = some ⟨b, o, none⟩ := by obtain ⟨_, b, o, h, _⟩ := hl.1.num (i := 0) (by omega); exact ⟨b, o, h⟩
        simp only at hA'
        clear hg hl hl' hB hA0 G hlen HR hAn HB HL HA
        by_cases hca : c = a
        · subst hca
          obtain rfl : n = c := by omega
          rw [if_pos rfl] at hA'
          subst hA'
          rw [Nat.sub_self] at C
          go_enter Try.func42, Try.ntmps42
          go_wp2_with fail
          go_quiet (first | (go_at_call 56; exact C.out _))
          go_wp2_with fail
          go_ret
          exact fin.out _
        · rw [if_neg hca] at hA'
          subst hA'
          go_enter Try.func42, Try.ntmps42
          go_wp2_with fail
          go_quiet (first | (go_at_call 56; exact C.out _))
          go_wp2_with fail
          go_ret
          exact fin.out _
end Go.Proofs.Ytneigplmgellcaa
