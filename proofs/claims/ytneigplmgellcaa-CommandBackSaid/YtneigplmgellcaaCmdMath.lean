/- Plain mathematics of commands: whether one may be, its bytes, how it is read, there and back. No program. -/
import Derived.Test.YtneigplmgellcaaWireBackMath
namespace Go.Proofs.Ytneigplmgellcaa
set_option maxRecDepth 20000

/-- A command. -/
structure Cmd where
  pl : Int
  sq : Int
  kd : Int
  nn : Int
  us : List Int
  ti : Int
  wd : Int
  ht : Int
  ax : Int
  ay : Int

def zeroC : Cmd := ⟨0, 0, 0, 0, [], 0, 0, 0, 0, 0⟩
def inB (n a b : Int) : Bool := decide (a ≤ n) && decide (n ≤ b)
theorem inB_iff {n a b : Int} : inB n a b = true ↔ a ≤ n ∧ n ≤ b := by simp [inB]

/-- Each above the one ahead. -/
def risingB (l : List Int) : Bool := match l with
  | [] => true
  | [_] => true
  | a :: b :: l => decide (a < b) && risingB (b :: l)
def okUs (l : List Int) : Bool := decide (1 ≤ l.length) && decide (l.length ≤ 64) && risingB l && l.all (fun x => inB x 1 1099511627776)

def mayK (c : Cmd) : Bool :=
  if c.kd = 1 then inB c.nn 0 3 && inB c.ax (-1099511627776) 1099511627776 && inB c.ay (-1099511627776) 1099511627776 && decide (c.us = []) && c.ti == 0 && c.wd == 0 && c.ht == 0
  else if c.kd = 2 then okUs c.us && inB c.ti 0 16383 && c.nn == 0 && c.wd == 0 && c.ht == 0 && c.ax == 0 && c.ay == 0
  else if c.kd = 3 then okUs c.us && c.ti == 0 && c.nn == 0 && c.wd == 0 && c.ht == 0 && c.ax == 0 && c.ay == 0
  else if c.kd = 4 then inB c.ti 0 16383 && inB c.wd 1 4 && inB c.ht 1 4 && c.nn == 0 && decide (c.us = []) && c.ax == 0 && c.ay == 0
  else if c.kd = 5 then inB c.nn 1 1099511627776 && decide (c.us = []) && c.ti == 0 && c.wd == 0 && c.ht == 0 && c.ax == 0 && c.ay == 0
  else if c.kd = 6 then okUs c.us && inB c.nn 1 1099511627776 && c.ti == 0 && c.wd == 0 && c.ht == 0 && c.ax == 0 && c.ay == 0
  else if c.kd = 7 then inB c.nn 1 1099511627776 && inB c.ti 0 16383 && decide (c.us = []) && c.wd == 0 && c.ht == 0 && c.ax == 0 && c.ay == 0
  else false
def mayC (c : Cmd) : Bool := inB c.pl 1 8 && inB c.sq 0 1099511627776 && mayK c

def putI (n : Int) : List Int := put n.toNat
def encL : List Int → List Int
  | [] => []
  | x :: l => putI x ++ encL l
def encU (l : List Int) : List Int := put l.length ++ encL l
def encK (c : Cmd) : List Int :=
  if c.kd = 1 then putI c.nn ++ (put (zig c.ax) ++ put (zig c.ay))
  else if c.kd = 2 then encU c.us ++ putI c.ti
  else if c.kd = 3 then encU c.us
  else if c.kd = 4 then putI c.ti ++ (putI c.wd ++ putI c.ht)
  else if c.kd = 5 then putI c.nn
  else if c.kd = 6 then encU c.us ++ putI c.nn
  else if c.kd = 7 then putI c.nn ++ putI c.ti
  else []
def encC (c : Cmd) : List Int := putI c.kd ++ (putI c.pl ++ (putI c.sq ++ encK c))

/-! Reading: what is left, or the first error. -/
inductive St where
  | ok (l : List Int)
  | bad (e : Int)

def rnum (lo hi : Int) : St → Int × St
  | .bad e => (0, .bad e)
  | .ok l => if (get 0 0 l).2.2 ≠ 0 then (0, .bad (get 0 0 l).2.2)
      else if lo ≤ (get 0 0 l).1 ∧ (get 0 0 l).1 ≤ hi then ((get 0 0 l).1, .ok (l.drop (get 0 0 l).2.1.toNat)) else (0, .bad 1)
def rint (lo hi : Int) : St → Int × St
  | .bad e => (0, .bad e)
  | .ok l => if (getI l).2.2 ≠ 0 then (0, .bad (getI l).2.2)
      else if lo ≤ (getI l).1 ∧ (getI l).1 ≤ hi then ((getI l).1, .ok (l.drop (getI l).2.1.toNat)) else (0, .bad 1)
def bnd {α β : Type} (f : St → α × St) (g : α → St → β × St) : St → β × St := fun s => g (f s).1 (f s).2
def give {α : Type} (x : α) : St → α × St := fun s => (x, s)

/-- n units, each at least 'lo'. -/
def rusL : Nat → Int → St → List Int × St
  | 0, _ => give []
  | n + 1, lo => fun s => match s with
    | .bad e => ([], .bad e)
    | .ok l => bnd (rnum lo 1099511627776) (fun x => bnd (rusL n (x + 1)) fun r => give (x :: r)) (.ok l)
def rus : St → List Int × St := bnd (rnum 1 64) fun n => rusL n.toNat 1

def rrest (k p q : Int) : St → Cmd × St :=
  if k = 1 then bnd (rnum 0 3) fun n => bnd (rint (-1099511627776) 1099511627776) fun x => bnd (rint (-1099511627776) 1099511627776) fun y => give ⟨p, q, k, n, [], 0, 0, 0, x, y⟩
  else if k = 2 then bnd rus fun u => bnd (rnum 0 16383) fun t => give ⟨p, q, k, 0, u, t, 0, 0, 0, 0⟩
  else if k = 3 then bnd rus fun u => give ⟨p, q, k, 0, u, 0, 0, 0, 0, 0⟩
  else if k = 4 then bnd (rnum 0 16383) fun t => bnd (rnum 1 4) fun w => bnd (rnum 1 4) fun h => give ⟨p, q, k, 0, [], t, w, h, 0, 0⟩
  else if k = 5 then bnd (rnum 1 1099511627776) fun n => give ⟨p, q, k, n, [], 0, 0, 0, 0, 0⟩
  else if k = 6 then bnd rus fun u => bnd (rnum 1 1099511627776) fun n => give ⟨p, q, k, n, u, 0, 0, 0, 0, 0⟩
  else if k = 7 then bnd (rnum 1 1099511627776) fun n => bnd (rnum 0 16383) fun t => give ⟨p, q, k, n, [], t, 0, 0, 0, 0⟩
  else give ⟨p, q, k, 0, [], 0, 0, 0, 0, 0⟩
def readC : St → Cmd × St := bnd (rnum 1 7) fun k => bnd (rnum 1 8) fun p => bnd (rnum 0 1099511627776) fun q => rrest k p q
/-- The command with which bytes begin, how many bytes it has, the error. -/
def parseR (l : List Int) : Cmd × Int × Int := match (readC (.ok l)).2 with
  | .ok r => ((readC (.ok l)).1, (l.length : Int) - r.length, 0)
  | .bad e => (zeroC, 0, e)

/-! What is wrong stays so. -/
def Stays {α : Type} (f : St → α × St) : Prop := ∀ e, (f (.bad e)).2 = .bad e
theorem stays_num (lo hi : Int) : Stays (rnum lo hi) := fun _ => rfl
theorem stays_int (lo hi : Int) : Stays (rint lo hi) := fun _ => rfl
theorem stays_give {α : Type} (x : α) : Stays (give x) := fun _ => rfl
theorem stays_bnd {α β : Type} {f : St → α × St} {g : α → St → β × St} (hf : Stays f) (hg : ∀ x, Stays (g x)) : Stays (bnd f g) := fun e => by
  unfold bnd; rw [hf e]; exact hg _ e
theorem stays_usL : ∀ (n : Nat) (lo : Int), Stays (rusL n lo)
  | 0, _ => fun _ => rfl
  | _ + 1, _ => fun _ => rfl
theorem stays_us : Stays rus := stays_bnd (stays_num _ _) fun _ => stays_usL _ _
theorem stays_rest (k p q : Int) : Stays (rrest k p q) := by
  unfold rrest
  repeat' split
  all_goals repeat' (first | exact stays_num _ _ | exact stays_int _ _ | exact stays_us | exact stays_give _ | (refine stays_bnd ?_ fun _ => ?_))
theorem stays_read : Stays readC := stays_bnd (stays_num _ _) fun _ => stays_bnd (stays_num _ _) fun _ => stays_bnd (stays_num _ _) fun _ => stays_rest _ _ _

/-! There: what was laid is read, a true beginning is cut off. -/
def Reads1 {α : Type} (f : St → α × St) (v : α) (e : List Int) : Prop := (∀ r, f (.ok (e ++ r)) = (v, .ok r)) ∧ ∀ k, k < e.length → (f (.ok (e.take k))).2 = .bad 11
theorem reads_give {α : Type} (v : α) : Reads1 (give v) v [] := ⟨fun _ => rfl, fun k h => absurd h (by simp)⟩
theorem reads_bnd {α β : Type} {f : St → α × St} {g : α → St → β × St} {v : α} {u : β} {e e' : List Int} (hf : Reads1 f v e) (hg : Reads1 (g v) u e') (hs : ∀ x, Stays (g x)) : Reads1 (bnd f g) u (e ++ e') := by
  refine ⟨fun r => ?_, fun k hk => ?_⟩
  · unfold bnd; rw [List.append_assoc, hf.1]; exact hg.1 r
  · unfold bnd
    by_cases h : k < e.length
    · rw [List.take_append_of_le_length (by omega), hf.2 k h]; exact hs _ _
    · rw [List.take_append, List.take_of_length_le (by omega), hf.1]; exact hg.2 _ (by simp at hk; omega)
theorem reads_num {lo hi n : Int} (h0 : 0 ≤ n) (h1 : n ≤ 9223372036854775807) (hl : lo ≤ n) (hh : n ≤ hi) : Reads1 (rnum lo hi) n (putI n) := by
  obtain ⟨m, rfl⟩ := Int.eq_ofNat_of_zero_le h0
  unfold putI
  rw [Int.toNat_natCast]
  refine ⟨fun r => ?_, fun k hk => ?_⟩
  · unfold rnum
    simp only
    rw [get_put0 h1 r]
    simp only [ne_eq, not_true_eq_false, if_false, Int.toNat_natCast]
    rw [if_pos ⟨hl, hh⟩, List.drop_left]
  · unfold rnum
    simp only
    rw [get_cut0 h1 hk]
    rfl
theorem reads_int {lo hi n : Int} (h0 : -4611686018427387904 ≤ n) (h1 : n < 4611686018427387904) (hl : lo ≤ n) (hh : n ≤ hi) : Reads1 (rint lo hi) n (put (zig n)) := by
  refine ⟨fun r => ?_, fun k hk => ?_⟩
  · unfold rint
    simp only
    rw [getI_put h0 h1 r]
    simp only [ne_eq, not_true_eq_false, if_false, Int.toNat_natCast]
    rw [if_pos ⟨hl, hh⟩, List.drop_left]
  · unfold rint
    simp only
    rw [getI_cut h0 h1 hk]
    rfl
theorem risingB_tail {x : Int} {l : List Int} (h : risingB (x :: l) = true) : risingB l = true ∧ ∀ y ∈ l.head?, x < y := by
  cases l with
  | nil => exact ⟨rfl, fun y hy => by cases hy⟩
  | cons y l =>
    simp only [risingB, Bool.and_eq_true, decide_eq_true_eq] at h
    exact ⟨h.2, fun z hz => by simp at hz; omega⟩
theorem rusL_succ (n : Nat) (lo : Int) (l : List Int) : rusL (n + 1) lo (.ok l) = bnd (rnum lo 1099511627776) (fun x => bnd (rusL n (x + 1)) fun r => give (x :: r)) (.ok l) := rfl
theorem reads_usL : ∀ (l : List Int) (lo : Int), 0 ≤ lo → risingB l = true → (∀ x ∈ l, 1 ≤ x ∧ x ≤ 1099511627776) → (∀ y ∈ l.head?, lo ≤ y) → Reads1 (rusL l.length lo) l (encL l)
  | [], _, _, _, _, _ => reads_give []
  | x :: l, lo, h0, hr, hb, hh => by
    have hx := hb x (List.mem_cons_self ..)
    have hlo : lo ≤ x := hh x (by simp)
    have ht := risingB_tail hr
    have ih := reads_usL l (x + 1) (by omega) ht.1 (fun y hy => hb y (List.mem_cons_of_mem _ hy)) (fun y hy => by have := ht.2 y hy; omega)
    have R := reads_bnd (reads_num (lo := lo) (hi := 1099511627776) (by omega) (by omega) hlo hx.2) (reads_bnd (g := fun r => give (x :: r)) ih (reads_give (x :: l)) (fun _ => stays_give _))
      (g := fun x => bnd (rusL l.length (x + 1)) fun r => give (x :: r)) (fun x => stays_bnd (stays_usL _ _) fun _ => stays_give _)
    rw [List.append_nil] at R
    exact R
theorem okUs_iff {l : List Int} : okUs l = true ↔ 1 ≤ l.length ∧ l.length ≤ 64 ∧ risingB l = true ∧ ∀ x ∈ l, 1 ≤ x ∧ x ≤ 1099511627776 := by
  unfold okUs
  simp only [Bool.and_eq_true, decide_eq_true_eq, List.all_eq_true, inB_iff, and_assoc]
theorem reads_us {l : List Int} (h : okUs l = true) : Reads1 rus l (encU l) := by
  obtain ⟨h1, h2, h3, h4⟩ := okUs_iff.1 h
  have R := reads_num (lo := 1) (hi := 64) (n := (l.length : Int)) (by omega) (by omega) (by omega) (by omega)
  unfold putI at R
  rw [Int.toNat_natCast] at R
  refine reads_bnd R ?_ fun _ => stays_usL _ _
  rw [Int.toNat_natCast]
  exact reads_usL l 1 (by omega) h3 h4 (fun y hy => by
    cases l with
    | nil => cases hy
    | cons z l => simp at hy; subst hy; exact (h4 _ (List.mem_cons_self ..)).1)
theorem reads_nil {α : Type} {f : St → α × St} {v : α} {e : List Int} (h : Reads1 f v (e ++ [])) : Reads1 f v e := by rwa [List.append_nil] at h
theorem kd_of_may {c : Cmd} (h : mayK c = true) : 1 ≤ c.kd ∧ c.kd ≤ 7 := by
  unfold mayK at h
  repeat' split at h
  all_goals first | omega | cases h
theorem reads_rest {c : Cmd} (h : mayK c = true) : Reads1 (rrest c.kd c.pl c.sq) c (encK c) := by
  have hk := kd_of_may h
  obtain ⟨pl, sq, kd, nn, us, ti, wd, ht, ax, ay⟩ := c
  simp only at hk
  unfold mayK at h
  unfold rrest encK
  rcases (show kd = 1 ∨ kd = 2 ∨ kd = 3 ∨ kd = 4 ∨ kd = 5 ∨ kd = 6 ∨ kd = 7 from by omega) with rfl | rfl | rfl | rfl | rfl | rfl | rfl
  · simp only [Int.reduceEq, if_false, if_true, Bool.and_eq_true, inB_iff, decide_eq_true_eq, beq_iff_eq] at h ⊢
    obtain ⟨⟨⟨⟨⟨⟨⟨a1, a2⟩, a3, a4⟩, a5, a6⟩, rfl⟩, rfl⟩, rfl⟩, rfl⟩ := h
    exact reads_bnd (reads_num a1 (by omega) a1 a2) (reads_bnd (reads_int (by omega) (by omega) a3 a4) (reads_nil (reads_bnd (reads_int (by omega) (by omega) a5 a6) (reads_give _) fun _ => stays_give _)) fun _ => stays_bnd (stays_int _ _) fun _ => stays_give _) fun _ => stays_bnd (stays_int _ _) fun _ => stays_bnd (stays_int _ _) fun _ => stays_give _
  · simp only [Int.reduceEq, if_false, if_true, Bool.and_eq_true, inB_iff, beq_iff_eq] at h ⊢
    obtain ⟨⟨⟨⟨⟨⟨a1, a3, a4⟩, rfl⟩, rfl⟩, rfl⟩, rfl⟩, rfl⟩ := h
    exact reads_bnd (reads_us a1) (reads_nil (reads_bnd (reads_num (by omega) (by omega) a3 a4) (reads_give _) fun _ => stays_give _)) fun _ => stays_bnd (stays_num _ _) fun _ => stays_give _
  · simp only [Int.reduceEq, if_false, if_true, Bool.and_eq_true, beq_iff_eq] at h ⊢
    obtain ⟨⟨⟨⟨⟨⟨a1, rfl⟩, rfl⟩, rfl⟩, rfl⟩, rfl⟩, rfl⟩ := h
    exact reads_nil (reads_bnd (reads_us a1) (reads_give _) fun _ => stays_give _)
  · simp only [Int.reduceEq, if_false, if_true, Bool.and_eq_true, inB_iff, decide_eq_true_eq, beq_iff_eq] at h ⊢
    obtain ⟨⟨⟨⟨⟨⟨⟨a1, a2⟩, a3, a4⟩, a5, a6⟩, rfl⟩, rfl⟩, rfl⟩, rfl⟩ := h
    exact reads_bnd (reads_num (by omega) (by omega) a1 a2) (reads_bnd (reads_num (by omega) (by omega) a3 a4) (reads_nil (reads_bnd (reads_num (by omega) (by omega) a5 a6) (reads_give _) fun _ => stays_give _)) fun _ => stays_bnd (stays_num _ _) fun _ => stays_give _) fun _ => stays_bnd (stays_num _ _) fun _ => stays_bnd (stays_num _ _) fun _ => stays_give _
  · simp only [Int.reduceEq, if_false, if_true, Bool.and_eq_true, inB_iff, decide_eq_true_eq, beq_iff_eq] at h ⊢
    obtain ⟨⟨⟨⟨⟨⟨⟨a1, a2⟩, rfl⟩, rfl⟩, rfl⟩, rfl⟩, rfl⟩, rfl⟩ := h
    exact reads_nil (reads_bnd (reads_num (by omega) (by omega) a1 a2) (reads_give _) fun _ => stays_give _)
  · simp only [Int.reduceEq, if_false, if_true, Bool.and_eq_true, inB_iff, beq_iff_eq] at h ⊢
    obtain ⟨⟨⟨⟨⟨⟨a1, a3, a4⟩, rfl⟩, rfl⟩, rfl⟩, rfl⟩, rfl⟩ := h
    exact reads_bnd (reads_us a1) (reads_nil (reads_bnd (reads_num (by omega) (by omega) a3 a4) (reads_give _) fun _ => stays_give _)) fun _ => stays_bnd (stays_num _ _) fun _ => stays_give _
  · simp only [Int.reduceEq, if_false, if_true, Bool.and_eq_true, inB_iff, decide_eq_true_eq, beq_iff_eq] at h ⊢
    obtain ⟨⟨⟨⟨⟨⟨⟨a1, a2⟩, a3, a4⟩, rfl⟩, rfl⟩, rfl⟩, rfl⟩, rfl⟩ := h
    exact reads_bnd (reads_num (by omega) (by omega) a1 a2) (reads_nil (reads_bnd (reads_num (by omega) (by omega) a3 a4) (reads_give _) fun _ => stays_give _)) fun _ => stays_bnd (stays_num _ _) fun _ => stays_give _
theorem reads_cmd {c : Cmd} (h : mayC c = true) : Reads1 readC c (encC c) := by
  unfold mayC at h
  simp only [Bool.and_eq_true, inB_iff] at h
  obtain ⟨⟨⟨p1, p2⟩, q1, q2⟩, hk⟩ := h
  have := kd_of_may hk
  exact reads_bnd (reads_num (by omega) (by omega) this.1 this.2) (reads_bnd (reads_num (by omega) (by omega) p1 p2) (reads_bnd (reads_num (by omega) (by omega) q1 q2) (reads_rest hk) fun _ => stays_rest _ _ _)
    fun _ => stays_bnd (stays_num _ _) fun _ => stays_rest _ _ _) fun _ => stays_bnd (stays_num _ _) fun _ => stays_bnd (stays_num _ _) fun _ => stays_rest _ _ _
theorem parse_enc {c : Cmd} (h : mayC c = true) (r : List Int) : parseR (encC c ++ r) = (c, ((encC c).length : Int), 0) := by
  unfold parseR
  rw [(reads_cmd h).1 r]
  simp only
  refine Prod.ext rfl (Prod.ext ?_ rfl)
  simp
theorem parse_cut {c : Cmd} (h : mayC c = true) {k : Nat} (hk : k < (encC c).length) : parseR ((encC c).take k) = (zeroC, 0, 11) := by
  unfold parseR
  rw [(reads_cmd h).2 k hk]

/-! Back: what is read has just these bytes. -/
theorem get_back : ∀ (l : List Int) (i : Nat) (acc v k : Int), IsBytes l → get i acc l = (v, k, 0) → ∃ m : Nat, v = acc + m * 128 ^ i ∧ (0 < i → 0 < m) ∧ (i : Int) ≤ k ∧ l = put m ++ l.drop (k - i).toNat := by
  intro l
  induction l with
  | nil => intro i acc v k _ h; rw [get_nil] at h; simp at h
  | cons c l ih =>
    intro i acc v k hb h
    have hc := hb c (List.mem_cons_self ..)
    by_cases hbad : (128 ≤ c ∧ i = 8) ∨ (c = 0 ∧ 0 < i)
    · rw [get_bad hbad] at h; simp at h
    · by_cases hl : c < 128
      · rw [get_last (by omega) hl] at h
        simp only [Prod.mk.injEq, and_true] at h
        obtain ⟨rfl, rfl⟩ := h
        refine ⟨c.toNat, ?_, by omega, by omega, ?_⟩
        · rw [Int.toNat_of_nonneg hc.1, show c % 128 = c by omega]
        · rw [put_small (by omega), Int.toNat_of_nonneg hc.1, show ((i : Int) + 1 - i).toNat = 1 by omega]
          rfl
      · rw [get_more (by omega) (by omega)] at h
        obtain ⟨m, h1, h2, h3, h4⟩ := ih (i + 1) _ v k (fun x hx => hb x (List.mem_cons_of_mem _ hx)) h
        have hm := h2 (by omega)
        refine ⟨(c % 128).toNat + 128 * m, ?_, by omega, by omega, ?_⟩
        · have e : (((c % 128).toNat + 128 * m : Nat) : Int) = c % 128 + 128 * m := by omega
          rw [h1, e, Int.add_mul, Int.pow_succ, Int.add_assoc]
          congr 2
          rw [Int.mul_comm ((128 : Int) ^ i) 128, ← Int.mul_assoc, Int.mul_comm (m : Int) 128]
        · rw [put_great (by omega), show ((c % 128).toNat + 128 * m) / 128 = m by omega, show (k - (i : Int)).toNat = (k - ((i + 1 : Nat) : Int)).toNat + 1 by omega, List.drop_succ_cons, List.cons_append, ← h4]
          congr 1
          omega
theorem get_back0 {l : List Int} {v k : Int} (hb : IsBytes l) (h : get 0 0 l = (v, k, 0)) : 0 ≤ v ∧ l = putI v ++ l.drop k.toNat := by
  obtain ⟨m, h1, _, _, h4⟩ := get_back l 0 0 v k hb h
  have : v = m := by rw [h1]; simp
  subst this
  refine ⟨by omega, ?_⟩
  unfold putI
  rw [Int.toNat_natCast]
  simpa using h4
theorem zig_zag {n : Int} (h : 0 ≤ n) : (zig (zag n) : Int) = n := by unfold zig zag; split <;> split <;> omega

/-- What f reads has the bytes of what it hands back, which may be. -/
def Back1 {α : Type} (f : St → α × St) (Q : α → Prop) (e : α → List Int) : Prop := ∀ l v r, IsBytes l → f (.ok l) = (v, .ok r) → Q v ∧ l = e v ++ r
theorem bytes_of_app {l m : List Int} (h : IsBytes (l ++ m)) : IsBytes m := fun x hx => h x (List.mem_append_right _ hx)
theorem back_give {α : Type} (x : α) : Back1 (give x) (fun v => v = x) (fun _ => []) := fun l v r _ h => by
  simp only [give, Prod.mk.injEq, St.ok.injEq] at h
  exact ⟨h.1.symm, h.2⟩
theorem back_bnd {α β : Type} {f : St → α × St} {g : α → St → β × St} {Q : α → Prop} {Q' : α → β → Prop} {e : α → List Int} {e' : α → β → List Int} (hf : Back1 f Q e) (hg : ∀ x, Q x → Back1 (g x) (Q' x) (e' x)) (hs : ∀ x, Stays (g x)) {l : List Int} {v : β} {r : List Int}
    (hb : IsBytes l) (h : bnd f g (.ok l) = (v, .ok r)) : ∃ x, Q x ∧ Q' x v ∧ l = e x ++ (e' x v ++ r) := by
  unfold bnd at h
  cases hx : f (.ok l) with
  | mk x s =>
    rw [hx] at h
    simp only at h
    cases s with
    | bad b =>
      have := hs x b
      rw [h] at this
      cases this
    | ok m =>
      obtain ⟨h1, h2⟩ := hf l x m hb hx
      have hm : IsBytes m := by rw [h2] at hb; exact bytes_of_app hb
      obtain ⟨h3, h4⟩ := hg x h1 m v r hm h
      exact ⟨x, h1, h3, by rw [h2, h4]⟩
theorem back_num (lo hi : Int) : Back1 (rnum lo hi) (fun n => 0 ≤ n ∧ lo ≤ n ∧ n ≤ hi) putI := fun l v r hb h => by
  unfold rnum at h
  simp only at h
  cases hg : get 0 0 l with
  | mk n q =>
    obtain ⟨k, x⟩ := q
    rw [hg] at h
    simp only at h
    split at h
    · simp at h
    · have hx : x = 0 := by omega
      subst hx
      split at h
      · simp only [Prod.mk.injEq, St.ok.injEq] at h
        obtain ⟨rfl, rfl⟩ := h
        obtain ⟨h1, h2⟩ := get_back0 hb hg
        exact ⟨⟨h1, by omega, by omega⟩, h2⟩
      · simp at h
theorem back_int (lo hi : Int) : Back1 (rint lo hi) (fun n => lo ≤ n ∧ n ≤ hi) (fun n => put (zig n)) := fun l v r hb h => by
  unfold rint at h
  simp only at h
  cases hg : get 0 0 l with
  | mk n q =>
    obtain ⟨k, x⟩ := q
    have hi : getI l = (zag n, k, x) := by unfold getI; rw [hg]
    rw [hi] at h
    simp only at h
    split at h
    · simp at h
    · have hx : x = 0 := by omega
      subst hx
      split at h
      · simp only [Prod.mk.injEq, St.ok.injEq] at h
        obtain ⟨rfl, rfl⟩ := h
        obtain ⟨h1, h2⟩ := get_back0 hb hg
        have := zig_zag h1
        refine ⟨⟨by omega, by omega⟩, ?_⟩
        have e : zig (zag n) = n.toNat := by omega
        show l = put (zig (zag n)) ++ _
        rw [e]
        exact h2
      · simp at h
theorem risingB_cons {x : Int} {l : List Int} (h : risingB l = true) (hx : ∀ y ∈ l.head?, x < y) : risingB (x :: l) = true := by
  cases l with
  | nil => rfl
  | cons y l => simp only [risingB, Bool.and_eq_true, decide_eq_true_eq]; exact ⟨hx y (by simp), h⟩
theorem back_usL : ∀ (n : Nat) (lo : Int), 1 ≤ lo → Back1 (rusL n lo) (fun l => l.length = n ∧ risingB l = true ∧ (∀ x ∈ l, 1 ≤ x ∧ x ≤ 1099511627776) ∧ ∀ y ∈ l.head?, lo ≤ y) encL
  | 0, _, _ => fun l v r _ h => by
    simp only [rusL, give, Prod.mk.injEq, St.ok.injEq] at h
    obtain ⟨rfl, rfl⟩ := h
    exact ⟨⟨rfl, rfl, fun x hx => (by cases hx), fun x hx => (by cases hx)⟩, rfl⟩
  | n + 1, lo, h0 => fun l v r hb h => by
    rw [rusL_succ] at h
    obtain ⟨x, ⟨hx0, hx1, hx2⟩, ⟨t, ⟨t1, t2, t3, t4⟩, ht, hl⟩, hl2⟩ := back_bnd (Q' := fun x v => ∃ t, (t.length = n ∧ risingB t = true ∧ (∀ y ∈ t, 1 ≤ y ∧ y ≤ 1099511627776) ∧ ∀ y ∈ t.head?, x + 1 ≤ y) ∧ v = x :: t ∧ True) (e' := fun _ v => encL v.tail) (back_num lo 1099511627776)
      (fun x hx l v r hb h => by
        obtain ⟨t, ht, hv, hl⟩ := back_bnd (Q' := fun t v => v = x :: t) (e' := fun _ _ => []) (back_usL n (x + 1) (by omega)) (fun t _ => back_give (x :: t)) (fun _ => stays_give _) hb h
        subst hv
        exact ⟨⟨t, ht, rfl, trivial⟩, hl⟩) (fun _ => stays_bnd (stays_usL _ _) fun _ => stays_give _) hb h
    subst ht
    refine ⟨⟨by simp [t1], risingB_cons t2 (fun y hy => by have := t4 y hy; omega), ?_, ?_⟩, ?_⟩
    · intro y hy
      rcases List.mem_cons.1 hy with rfl | hy
      · omega
      · exact t3 y hy
    · intro y hy; simp at hy; omega
    · rw [hl2]; simp [encL]
theorem back_us : Back1 rus (fun l => okUs l = true) encU := fun l v r hb h => by
  obtain ⟨n, ⟨h0, h1, h2⟩, ⟨t1, t2, t3, t4⟩, hl⟩ := back_bnd (Q' := fun (n : Int) (v : List Int) => v.length = n.toNat ∧ risingB v = true ∧ (∀ x ∈ v, 1 ≤ x ∧ x ≤ 1099511627776) ∧ ∀ y ∈ v.head?, (1 : Int) ≤ y) (e' := fun _ v => encL v) (back_num 1 64) (fun n _ => back_usL n.toNat 1 (by omega)) (fun _ => stays_usL _ _) hb h
  refine ⟨okUs_iff.2 ⟨by omega, by omega, t2, t3⟩, ?_⟩
  rw [hl]
  unfold encU putI
  rw [t1, List.append_assoc]
theorem back_last {α β : Type} {f : St → α × St} {F : α → β} {Q : α → Prop} {e : α → List Int} (hf : Back1 f Q e) {l : List Int} {v : β} {r : List Int}
    (hb : IsBytes l) (h : bnd f (fun x => give (F x)) (.ok l) = (v, .ok r)) : ∃ x, Q x ∧ v = F x ∧ l = e x ++ r := by
  obtain ⟨x, h1, h2, h3⟩ := back_bnd (Q' := fun x v => v = F x) (e' := fun _ _ => []) hf (fun x _ => back_give (F x)) (fun _ => stays_give _) hb h
  exact ⟨x, h1, h2, by simpa using h3⟩
theorem back_next {α β : Type} {f : St → α × St} {g : α → St → β × St} {Q : α → Prop} {e : α → List Int} (hf : Back1 f Q e) (hs : ∀ x, Stays (g x)) {l : List Int} {v : β} {r : List Int}
    (hb : IsBytes l) (h : bnd f g (.ok l) = (v, .ok r)) : ∃ x m, Q x ∧ IsBytes m ∧ l = e x ++ m ∧ g x (.ok m) = (v, .ok r) := by
  unfold bnd at h
  cases hx : f (.ok l) with
  | mk x s =>
    rw [hx] at h
    simp only at h
    cases s with
    | bad b =>
      have := hs x b
      rw [h] at this
      cases this
    | ok m =>
      obtain ⟨h1, h2⟩ := hf l x m hb hx
      exact ⟨x, m, h1, by rw [h2] at hb; exact bytes_of_app hb, h2, h⟩
theorem back_rest {k p q : Int} (hk : 1 ≤ k ∧ k ≤ 7) {l : List Int} {c : Cmd} {r : List Int} (hb : IsBytes l) (h : rrest k p q (.ok l) = (c, .ok r)) : c.kd = k ∧ c.pl = p ∧ c.sq = q ∧ mayK c = true ∧ l = encK c ++ r := by
  unfold rrest at h
  rcases (show k = 1 ∨ k = 2 ∨ k = 3 ∨ k = 4 ∨ k = 5 ∨ k = 6 ∨ k = 7 from by omega) with rfl | rfl | rfl | rfl | rfl | rfl | rfl
  · rw [if_pos rfl] at h
    obtain ⟨n, m, hn, hm, rfl, g1⟩ := back_next (back_num _ _) (fun _ => stays_bnd (stays_int _ _) fun _ => stays_bnd (stays_int _ _) fun _ => stays_give _) hb h
    obtain ⟨x, m2, hx, hm2, rfl, g2⟩ := back_next (back_int _ _) (fun _ => stays_bnd (stays_int _ _) fun _ => stays_give _) hm g1
    obtain ⟨y, hy, rfl, rfl⟩ := back_last (F := fun y => (⟨p, q, 1, n, [], 0, 0, 0, x, y⟩ : Cmd)) (back_int _ _) hm2 g2
    refine ⟨rfl, rfl, rfl, ?_, by simp [encK]⟩
    simp [mayK, inB_iff, hn.2.1, hn.2.2, hx.1, hx.2, hy.1, hy.2]
  · rw [if_neg (by omega), if_pos rfl] at h
    obtain ⟨u, m, hu, hm, rfl, g1⟩ := back_next back_us (fun _ => stays_bnd (stays_num _ _) fun _ => stays_give _) hb h
    obtain ⟨y, hy, rfl, rfl⟩ := back_last (F := fun y => (⟨p, q, 2, 0, u, y, 0, 0, 0, 0⟩ : Cmd)) (back_num _ _) hm g1
    refine ⟨rfl, rfl, rfl, ?_, by simp [encK]⟩
    simp [mayK, inB_iff, hu, hy.1, hy.2]
  · rw [if_neg (by omega), if_neg (by omega), if_pos rfl] at h
    obtain ⟨u, hu, rfl, rfl⟩ := back_last (F := fun u => (⟨p, q, 3, 0, u, 0, 0, 0, 0, 0⟩ : Cmd)) back_us hb h
    refine ⟨rfl, rfl, rfl, ?_, by simp [encK]⟩
    simp [mayK, hu]
  · rw [if_neg (by omega), if_neg (by omega), if_neg (by omega), if_pos rfl] at h
    obtain ⟨n, m, hn, hm, rfl, g1⟩ := back_next (back_num _ _) (fun _ => stays_bnd (stays_num _ _) fun _ => stays_bnd (stays_num _ _) fun _ => stays_give _) hb h
    obtain ⟨x, m2, hx, hm2, rfl, g2⟩ := back_next (back_num _ _) (fun _ => stays_bnd (stays_num _ _) fun _ => stays_give _) hm g1
    obtain ⟨y, hy, rfl, rfl⟩ := back_last (F := fun y => (⟨p, q, 4, 0, [], n, x, y, 0, 0⟩ : Cmd)) (back_num _ _) hm2 g2
    refine ⟨rfl, rfl, rfl, ?_, by simp [encK]⟩
    simp [mayK, inB_iff, hn.1, hn.2.2, hx.2, hy.2]
  · rw [if_neg (by omega), if_neg (by omega), if_neg (by omega), if_neg (by omega), if_pos rfl] at h
    obtain ⟨n, hn, rfl, rfl⟩ := back_last (F := fun n => (⟨p, q, 5, n, [], 0, 0, 0, 0, 0⟩ : Cmd)) (back_num _ _) hb h
    refine ⟨rfl, rfl, rfl, ?_, by simp [encK]⟩
    simp [mayK, inB_iff, hn.2]
  · rw [if_neg (by omega), if_neg (by omega), if_neg (by omega), if_neg (by omega), if_neg (by omega), if_pos rfl] at h
    obtain ⟨u, m, hu, hm, rfl, g1⟩ := back_next back_us (fun _ => stays_bnd (stays_num _ _) fun _ => stays_give _) hb h
    obtain ⟨y, hy, rfl, rfl⟩ := back_last (F := fun y => (⟨p, q, 6, y, u, 0, 0, 0, 0, 0⟩ : Cmd)) (back_num _ _) hm g1
    refine ⟨rfl, rfl, rfl, ?_, by simp [encK]⟩
    simp [mayK, inB_iff, hu, hy.2]
  · rw [if_neg (by omega), if_neg (by omega), if_neg (by omega), if_neg (by omega), if_neg (by omega), if_neg (by omega), if_pos rfl] at h
    obtain ⟨n, m, hn, hm, rfl, g1⟩ := back_next (back_num _ _) (fun _ => stays_bnd (stays_num _ _) fun _ => stays_give _) hb h
    obtain ⟨y, hy, rfl, rfl⟩ := back_last (F := fun y => (⟨p, q, 7, n, [], y, 0, 0, 0, 0⟩ : Cmd)) (back_num _ _) hm g1
    refine ⟨rfl, rfl, rfl, ?_, by simp [encK]⟩
    simp [mayK, inB_iff, hn.2, hy.1, hy.2]
theorem back_read {l : List Int} {c : Cmd} {r : List Int} (hb : IsBytes l) (h : readC (.ok l) = (c, .ok r)) : mayC c = true ∧ l = encC c ++ r := by
  obtain ⟨k, m, hk, hm, rfl, g1⟩ := back_next (back_num _ _) (fun _ => stays_bnd (stays_num _ _) fun _ => stays_bnd (stays_num _ _) fun _ => stays_rest _ _ _) hb h
  obtain ⟨p, m2, hp, hm2, rfl, g2⟩ := back_next (back_num _ _) (fun _ => stays_bnd (stays_num _ _) fun _ => stays_rest _ _ _) hm g1
  obtain ⟨q, m3, hq, hm3, rfl, g3⟩ := back_next (back_num _ _) (fun _ => stays_rest _ _ _) hm2 g2
  obtain ⟨h1, h2, h3, h4, rfl⟩ := back_rest hk.2 hm3 g3
  subst h1; subst h2; subst h3
  refine ⟨?_, by simp [encC]⟩
  simp only [mayC, Bool.and_eq_true, inB_iff]
  exact ⟨⟨hp.2, hq.2⟩, h4⟩
/-- An error is never none. -/
def Errs {α : Type} (f : St → α × St) : Prop := ∀ l e, (f (.ok l)).2 = .bad e → e ≠ 0
theorem errs_num (lo hi : Int) : Errs (rnum lo hi) := fun l e h => by
  unfold rnum at h
  simp only at h
  split at h
  · simp only [St.bad.injEq] at h; subst h; assumption
  · split at h
    · cases h
    · simp only [St.bad.injEq] at h; omega
theorem errs_int (lo hi : Int) : Errs (rint lo hi) := fun l e h => by
  unfold rint at h
  simp only at h
  split at h
  · simp only [St.bad.injEq] at h; subst h; assumption
  · split at h
    · cases h
    · simp only [St.bad.injEq] at h; omega
theorem errs_give {α : Type} (x : α) : Errs (give x) := fun l e h => by cases h
theorem errs_bnd {α β : Type} {f : St → α × St} {g : α → St → β × St} (hf : Errs f) (hg : ∀ x, Errs (g x)) (hs : ∀ x, Stays (g x)) : Errs (bnd f g) := fun l e h => by
  unfold bnd at h
  cases hx : (f (.ok l)).2 with
  | bad b => rw [hx, hs] at h; simp only [St.bad.injEq] at h; subst h; exact hf l _ hx
  | ok m => rw [hx] at h; exact hg _ m e h
theorem errs_usL : ∀ (n : Nat) (lo : Int), Errs (rusL n lo)
  | 0, _ => errs_give _
  | n + 1, _ => errs_bnd (errs_num _ _) (fun _ => errs_bnd (errs_usL n _) (fun _ => errs_give _) fun _ => stays_give _) fun _ => stays_bnd (stays_usL _ _) fun _ => stays_give _
theorem errs_us : Errs rus := errs_bnd (errs_num _ _) (fun _ => errs_usL _ _) fun _ => stays_usL _ _
theorem errs_rest (k p q : Int) : Errs (rrest k p q) := by
  unfold rrest
  repeat' split
  all_goals repeat' (first | exact errs_num _ _ | exact errs_int _ _ | exact errs_us | exact errs_give _ | exact stays_num _ _ | exact stays_int _ _ | exact stays_us | exact stays_give _ | (refine errs_bnd ?_ (fun _ => ?_) fun _ => ?_) | (refine stays_bnd ?_ fun _ => ?_))
theorem errs_read : Errs readC := errs_bnd (errs_num _ _) (fun _ => errs_bnd (errs_num _ _) (fun _ => errs_bnd (errs_num _ _) (fun _ => errs_rest _ _ _) fun _ => stays_rest _ _ _) fun _ => stays_bnd (stays_num _ _) fun _ => stays_rest _ _ _) fun _ => stays_bnd (stays_num _ _) fun _ => stays_bnd (stays_num _ _) fun _ => stays_rest _ _ _
/-- What is read as a command may be, and has just these bytes. -/
theorem parse_back {l : List Int} (hb : IsBytes l) (h : (parseR l).2.2 = 0) : mayC (parseR l).1 = true ∧ (parseR l).2.1 = ((encC (parseR l).1).length : Int) ∧ l.take (encC (parseR l).1).length = encC (parseR l).1 ∧ (encC (parseR l).1).length ≤ l.length := by
  unfold parseR at h ⊢
  cases hx : readC (.ok l) with
  | mk c s =>
    rw [hx] at h
    simp only at h ⊢
    cases s with
    | bad e =>
      simp only at h
      exact absurd h (errs_read l e (by rw [hx]))
    | ok r =>
      simp only
      obtain ⟨h1, rfl⟩ := back_read hb hx
      refine ⟨h1, by simp, by simp, by simp⟩
end Go.Proofs.Ytneigplmgellcaa
