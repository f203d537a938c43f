/- The page's products; what the laws of layer 1 share. -/
import Derived.Test.YtjbnpgjndohjcaaSqrtM
import Derived.Test.YtjbnpgjndohjcaaOpen
import Derived.Laws.Externs
import Derived.StillTailTactics
namespace Go.Proofs.Ytjbnpgjndohjcaa
set_option maxRecDepth 20000
open Go.RowKit Go.WideShapes Go.ChangeShapes

theorem ref_size (A : Int) (w : World) (h0 : -9223372036854775807 ≤ A) (h1 : A ≤ 9223372036854775807) : Calls Try.prog 92 #[.int .i64 A] w fun e w' => e = .returned (.int .u64 (if A < 0 then -A else A)) ∧ w = w' := by
  by_cases h : A < 0
  · have H : Hid ((if A < 0 then -A else A) = -A) := by show _ = _; rw [if_pos h]
    generalize (if A < 0 then -A else A) = X at *
    go_enter Try.func92, Try.ntmps92
    go_wp2
    go_ret
    exact ⟨by rw [H.out]; rfl, rfl⟩
  · have H : Hid ((if A < 0 then -A else A) = A) := by show _ = _; rw [if_neg h]
    generalize (if A < 0 then -A else A) = X at *
    have h' : 0 ≤ A := by omega
    go_enter Try.func92, Try.ntmps92
    go_wp2
    go_ret
    exact ⟨by rw [H.out]; rfl, rfl⟩

def sgr (q : Int) (neg left : Bool) : Int := sg (if neg = true ∧ left = true then q + 1 else q) false neg
theorem sg_val (n : Int) (below : Bool) : (9223372036854775807 < n → sg n false below = sgn 9223372036854775807 below) ∧ (¬ 9223372036854775807 < n → sg n false below = sgn n below) := by
  refine ⟨fun h => ?_, fun h => ?_⟩
  · unfold sg; rw [if_pos (.inr h)]
  · unfold sg; rw [if_neg (by simp; omega)]

theorem ref_signed (q : Int) (neg left : Bool) (w : World) (h0 : 0 ≤ q) (h1 : q ≤ 18446744073709551615) : Calls Try.prog 109 #[.int .u64 q, .bool neg, .bool left] w fun e w' => e = .returned (.int .i64 (sgr q neg left)) ∧ w = w' := by
  have s1 := sg_val q neg
  have s2 := sg_val (q + 1) neg
  by_cases hc : q < 9223372036854775807
  · have H1 : Hid (sgr q false left = q ∧ sgr q true false = -q ∧ sgr q true true = -(q + 1)) := by
      refine ⟨?_, ?_, ?_⟩
      · unfold sgr; rw [if_neg (by simp), (sg_val q false).2 (by omega)]; rfl
      · unfold sgr; rw [if_neg (by simp), (sg_val q true).2 (by omega)]; rfl
      · unfold sgr; rw [if_pos (by simp), (sg_val (q + 1) true).2 (by omega)]; rfl
    clear s1 s2
    cases neg
    · go_enter Try.func109, Try.ntmps109
      go_wp2
      go_ret
      exact ⟨by rw [H1.out.1]; rfl, rfl⟩
    · cases left
      · go_enter Try.func109, Try.ntmps109
        go_wp2
        go_ret
        exact ⟨by rw [H1.out.2.1]; rfl, rfl⟩
      · go_enter Try.func109, Try.ntmps109
        go_wp2
        go_ret
        exact ⟨by rw [H1.out.2.2]; rfl, rfl⟩
  · by_cases hc2 : q = 9223372036854775807
    · have H1 : Hid (sgr q false left = 9223372036854775807 ∧ sgr q true false = -9223372036854775807 ∧ sgr q true true = -9223372036854775807) := by
        refine ⟨?_, ?_, ?_⟩
        · unfold sgr; rw [if_neg (by simp), (sg_val q false).2 (by omega), hc2]; rfl
        · unfold sgr; rw [if_neg (by simp), (sg_val q true).2 (by omega), hc2]; rfl
        · unfold sgr; rw [if_pos (by simp), (sg_val (q + 1) true).1 (by omega)]; rfl
      have q1 : 9223372036854775807 ≤ q := by omega
      have q2 : q ≤ 9223372036854775807 := by omega
      generalize sgr q = F at *
      subst hc2
      clear s1 s2 hc q1 q2 h0 h1
      cases neg
      · go_enter Try.func109, Try.ntmps109
        go_wp2
        go_ret
        exact ⟨by rw [H1.out.1]; rfl, rfl⟩
      · cases left
        · go_enter Try.func109, Try.ntmps109
          go_wp2
          go_ret
          exact ⟨by rw [H1.out.2.1]; rfl, rfl⟩
        · go_enter Try.func109, Try.ntmps109
          go_wp2
          go_ret
          exact ⟨by rw [H1.out.2.2]; rfl, rfl⟩
    · have hq : 9223372036854775808 ≤ q := by omega
      have H1 : Hid (∀ left, sgr q false left = 9223372036854775807 ∧ sgr q true left = -9223372036854775807) := by
        intro left
        refine ⟨?_, ?_⟩
        · unfold sgr; rw [if_neg (by simp), (sg_val q false).1 (by omega)]; rfl
        · unfold sgr; cases left
          · rw [if_neg (by simp), (sg_val q true).1 (by omega)]; rfl
          · rw [if_pos (by simp), (sg_val (q + 1) true).1 (by omega)]; rfl
      clear s1 s2 hc hc2
      cases neg
      · go_enter Try.func109, Try.ntmps109
        go_wp2
        go_ret
        exact ⟨by rw [(H1.out _).1]; rfl, rfl⟩
      · cases left <;>
        (go_enter Try.func109, Try.ntmps109
         go_wp2
         go_ret
         exact ⟨by rw [(H1.out _).2]; rfl, rfl⟩)

theorem fmul_ref (a b : Int) (ha : a ≤ 9223372036854775807) (hb : b ≤ 9223372036854775807) :
    fmul a b = sgr (overQ (mag a * mag b) 65536) (isNeg a != isNeg b) (decide (0 < mag a * mag b % 65536)) := by
  rw [fmul_eq a b ha hb]
  have h1 := mag_range ha
  have h2 := mag_range hb
  have hP : 0 ≤ mag a * mag b := Int.mul_nonneg h1.1 h2.1
  generalize mag a * mag b = P at *
  generalize (isNeg a != isNeg b) = s at *
  unfold sgr overQ dn
  by_cases hg : 18446744073709551616 ≤ P / 65536
  · rw [if_pos hg, (sg_val _ s).1 (by split <;> omega), (sg_val _ s).1 (by split <;> omega)]
  · rw [if_neg hg]
    cases s
    · simp
    · by_cases hr : 0 < P % 65536
      · rw [if_pos ⟨rfl, hr⟩, if_pos ⟨rfl, decide_eq_true hr⟩]
      · rw [if_neg (fun h => hr h.2), if_neg (fun h => hr (of_decide_eq_true h.2))]

theorem overQ_range {W b : Int} (h0 : 0 ≤ W) (hb : 0 < b) : 0 ≤ overQ W b ∧ overQ W b ≤ 18446744073709551615 := by
  have := Int.ediv_nonneg h0 (Int.le_of_lt hb)
  unfold overQ; split <;> omega

theorem wake_mul : (fmul 98304 98304 == 147456) = true := by decide +kernel
theorem wake_sqrt : (fsqrt 262144 == 131072) = true := by decide +kernel
/-- A slice of thronglaw1.Ask that came in. -/
def Asks1 (w : World) (A : Option Addr) (n : Nat) : Prop := ∀ i, i < n → ∃ (b o : Nat) (x y z : Int),
  A = some ⟨b, o, none⟩ ∧ b < w.heap.size ∧ w.cell? ⟨b, o + i * 3, none⟩ = some (.int .i64 x) ∧ w.cell? ⟨b, o + i * 3 + 1, none⟩ = some (.int .i64 y) ∧ w.cell? ⟨b, o + i * 3 + 2, none⟩ = some (.int .i64 z) ∧
  (-9223372036854775808 ≤ x ∧ x ≤ 9223372036854775807) ∧ (-9223372036854775808 ≤ y ∧ y ≤ 9223372036854775807) ∧ (-9223372036854775808 ≤ z ∧ z ≤ 9223372036854775807)
theorem Asks1.below {w w' : World} {A : Option Addr} {n : Nat} (h : Asks1 w A n) (hb : Below w.heap.size w w') : Asks1 w' A n := fun i hi => by
  obtain ⟨b, o, x, y, z, h1, h2, h3, h4, h5, h6⟩ := h i hi
  exact ⟨b, o, x, y, z, h1, Nat.lt_of_lt_of_le h2 hb.size, (hb.cell h2).trans h3, (hb.cell h2).trans h4, (hb.cell h2).trans h5, h6⟩
end Go.Proofs.Ytjbnpgjndohjcaa
namespace Go.Proofs.Ytjbnpgjndohjcaa
set_option maxRecDepth 20000
open Go.RowKit

theorem add64_run (x y c : Int) (hx : 0 ≤ x) (hx' : x ≤ 18446744073709551615) (hy : 0 ≤ y) (hy' : y ≤ 18446744073709551615) (hc : 0 ≤ c) (hc1 : c ≤ 1) (w : World) :
    (callFunc 115 #[.int .u64 x, .int .u64 y, .int .u64 c]).run Try.prog w = .ok (.value (.tuple #[.int .u64 ((x + y + c) % 18446744073709551616), .int .u64 ((x + y + c) / 18446744073709551616)])) w := by
  obtain ⟨a, rfl⟩ := Int.eq_ofNat_of_zero_le hx
  obtain ⟨b, rfl⟩ := Int.eq_ofNat_of_zero_le hy
  obtain ⟨d, rfl⟩ := Int.eq_ofNat_of_zero_le hc
  rw [run_callFunc_extern Try.func115 (by kernel_rfl) (by kernel_rfl) (by kernel_rfl) (e := add64Entry) (by kernel_rfl), run_add64 a b d (by omega) (by omega) (by omega) (by omega)]
  simp only [Result.andThen]

set_option maxHeartbeats 800000 in
set_option maxRecDepth 20000 in
theorem fix_plus (h1 l1 h2 l2 : Int) (w : World) (a0 : 0 ≤ h1) (a1 : h1 ≤ 4611686018427387903) (b0 : 0 ≤ l1) (b1 : l1 ≤ 18446744073709551615) (c0 : 0 ≤ h2) (c1 : h2 ≤ 4611686018427387903) (d0 : 0 ≤ l2) (d1 : l2 ≤ 18446744073709551615) :
    Calls Try.prog 102 #[.agg #[.int .u64 h1, .int .u64 l1], .agg #[.int .u64 h2, .int .u64 l2]] w fun e w' =>
      e = .returned (.agg #[.int .u64 (h1 + h2 + (l1 + l2) / 18446744073709551616), .int .u64 ((l1 + l2) % 18446744073709551616)]) ∧ Below w.heap.size w w' := by
  have A1 := Lib.hid (fun W => add64_run l1 l2 0 b0 b1 d0 d1 (by omega) (by omega) W)
  rw [Int.add_zero] at A1
  have A2 := Lib.hid (fun W => add64_run h1 h2 ((l1 + l2) / 18446744073709551616) a0 (by omega) c0 (by omega) (by omega) (by omega) W)
  have E2 : Hid ((h1 + h2 + (l1 + l2) / 18446744073709551616) % 18446744073709551616 = h1 + h2 + (l1 + l2) / 18446744073709551616) := by show _ = _; omega
  generalize (h1 + h2 + (l1 + l2) / 18446744073709551616) % 18446744073709551616 = H at *
  generalize (h1 + h2 + (l1 + l2) / 18446744073709551616) / 18446744073709551616 = H2 at *
  generalize h1 + h2 + (l1 + l2) / 18446744073709551616 = HH at *
  generalize (l1 + l2) / 18446744073709551616 = cy at *
  generalize (l1 + l2) % 18446744073709551616 = lo at *
  go_enter Try.func102, Try.ntmps102
  go_wp2
  rw [A1.out]
  go_wp2
  rw [A2.out]
  go_wp2
  exact bodyPost_ret (v := .agg #[.int .u64 H, .int .u64 lo]) (by simp [results, Try.results102, go_sem]) rfl ⟨by rw [E2.out], (((Below.refl _ _).alloc (Nat.le_refl _) _).alloc (by simp) _).alloc (by simp; omega) _⟩

theorem back_of {P : Program} {f : FuncId} {args : Array Value} {w : World} {v : Value} (h : Calls P f args w fun e w' => e = .returned v ∧ w = w') : Calls P f args w fun e w' => e = .returned v ∧ w' = w :=
  h.mono fun _ _ ⟨he, hw⟩ => ⟨he, hw.symm⟩
theorem below_one (w : World) (o : Obj) : Below w.heap.size w (w.alloc o) := (Below.refl _ _).alloc (Nat.le_refl _) _
theorem two_below (w : World) (x y : Obj) : Below w.heap.size w ((w.alloc x).alloc y) := ((Below.refl _ _).alloc (Nat.le_refl _) _).alloc (by simp) _

theorem vec_norm (x y : Int) (w : World) : Calls Try.prog 85 #[.agg #[.int .i64 x, .int .i64 y]] w fun e w' => e = .returned (.agg #[.int .i64 (nrm x), .int .i64 (nrm y)]) ∧ Below w.heap.size w w' := by
  have N1 := Lib.hid (fun W => back_of (fix_norm x W))
  have N2 := Lib.hid (fun W => back_of (fix_norm y W))
  generalize nrm x = X at *
  generalize nrm y = Y at *
  go_enter Try.func85, Try.ntmps85
  go_wp2_with fail
  generalize hW : (w.alloc (.cells #[.int .i64 x, .int .i64 y] 35)).alloc _ = W
  have hc0 : W.cell? ⟨w.heap.size, 0, none⟩ = some (.int .i64 x) := by rw [← hW, World.cell?_alloc_lt _ _ _ (by simp), World.cell?_alloc_at _ _ _ _ rfl]; rfl
  have hc1 : W.cell? ⟨w.heap.size, 1, none⟩ = some (.int .i64 y) := by rw [← hW, World.cell?_alloc_lt _ _ _ (by simp), World.cell?_alloc_at _ _ _ _ rfl]; rfl
  refine wp_region_still_tail 7 (by kernel_rfl) (by kernel_rfl) ?_
  simp only [List.take_succ_cons, List.take_zero, List.drop_succ_cons, List.drop_zero]
  repeat still_step
  still_call (N1.out _)
  repeat still_step
  still_call (N2.out _)
  repeat still_step
  refine wpStill_nil ?_
  change wpList _ _ _ _ _ W.drew
  subst hW
  go_wp2
  exact bodyPost_ret (v := .agg #[.int .i64 X, .int .i64 Y]) (by simp [results, Try.results85, go_sem]) rfl ⟨rfl, (two_below _ _ _).drew⟩

set_option maxHeartbeats 800000 in
set_option maxRecDepth 20000 in
theorem ref_plus (h1 l1 h2 l2 : Int) (w : World) (a0 : 0 ≤ h1) (a1 : h1 ≤ 4611686018427387903) (b0 : 0 ≤ l1) (b1 : l1 ≤ 18446744073709551615) (c0 : 0 ≤ h2) (c1 : h2 ≤ 4611686018427387903) (d0 : 0 ≤ l2) (d1 : l2 ≤ 18446744073709551615) :
    Calls Try.prog 93 #[.agg #[.int .u64 h1, .int .u64 l1], .agg #[.int .u64 h2, .int .u64 l2]] w fun e w' =>
      e = .returned (.agg #[.int .u64 (h1 + h2 + (l1 + l2) / 18446744073709551616), .int .u64 ((l1 + l2) % 18446744073709551616)]) ∧ Below w.heap.size w w' := by
  by_cases hc : l1 + l2 < 18446744073709551616
  · have E1 : Hid ((l1 + l2) / 18446744073709551616 = 0) := by show _ = _; omega
    have E2 : Hid ((l1 + l2) % 18446744073709551616 = l1 + l2) := by show _ = _; omega
    have e3 : (l1 + l2 < l1) = False := by simp; omega
    go_enter Try.func93, Try.ntmps93
    go_wp2
    exact bodyPost_ret (v := .agg #[.int .u64 (h1 + h2), .int .u64 (l1 + l2)]) (by simp [results, Try.results93, go_sem]) rfl ⟨by rw [E1.out, E2.out, Int.add_zero], ((two_below _ _ _).alloc (by simp; omega) _).alloc (by simp; omega) _⟩
  · have E1 : Hid ((l1 + l2) / 18446744073709551616 = 1) := by show _ = _; omega
    have E2 : Hid ((l1 + l2) % 18446744073709551616 = l1 + l2 - 18446744073709551616) := by show _ = _; omega
    have hwr : IntKind.u64.wrap (l1 + l2) = l1 + l2 - 18446744073709551616 := by rw [u64_wrap]; omega
    go_enter Try.func93, Try.ntmps93
    go_wp2
    exact bodyPost_ret (v := .agg #[.int .u64 (h1 + h2 + 1), .int .u64 (l1 + l2 - 18446744073709551616)]) (by simp [results, Try.results93, go_sem]) rfl ⟨by rw [E1.out, E2.out], ((two_below _ _ _).alloc (by simp; omega) _).alloc (by simp; omega) _⟩

theorem own2 (w : World) (o : Obj) (a b : Value) (t : TypeId) {w3 : World} (hb : Below ((w.alloc o).alloc (.cells #[a, b] t)).heap.size ((w.alloc o).alloc (.cells #[a, b] t)) w3) :
    w3.cell? ⟨w.heap.size + 1, 0, none⟩ = some a ∧ w3.cell? ⟨w.heap.size + 1, 1, none⟩ = some b ∧ w3.frozen? ⟨w.heap.size + 1, 0, none⟩ = false ∧ w3.frozen? ⟨w.heap.size + 1, 1, none⟩ = false ∧ Below w.heap.size w w3 := by
  have hlt : ∀ k, (⟨w.heap.size + 1, k, none⟩ : Addr).block < ((w.alloc o).alloc (.cells #[a, b] t)).heap.size := fun k => by simp
  refine ⟨?_, ?_, ?_, ?_, (two_below w o _).trans (hb.mono (by simp; omega))⟩
  · rw [hb.cell (hlt 0), World.cell?_alloc_at _ _ _ _ (by simp)]; rfl
  · rw [hb.cell (hlt 1), World.cell?_alloc_at _ _ _ _ (by simp)]; rfl
  · rw [hb.frozen (hlt 0)]; exact World.frozen?_alloc_at _ _ _ _ (by simp)
  · rw [hb.frozen (hlt 1)]; exact World.frozen?_alloc_at _ _ _ _ (by simp)
theorem set2 {w : World} {g : Nat} {a b : Value} (h0 : w.cell? ⟨g, 0, none⟩ = some a) (h1 : w.cell? ⟨g, 1, none⟩ = some b) (x y : Value) :
    ((w.setCell ⟨g, 0, none⟩ x).setCell ⟨g, 1, none⟩ y).cell? ⟨g, 0, none⟩ = some x ∧ ((w.setCell ⟨g, 0, none⟩ x).setCell ⟨g, 1, none⟩ y).cell? ⟨g, 1, none⟩ = some y := by
  refine ⟨?_, ?_⟩
  · rw [World.cell?_setCell_other _ _ _ _ (by simp)]
    exact World.cell?_setCell_same _ _ _ h0
  · exact World.cell?_setCell_same _ _ _ (by rw [World.cell?_setCell_other _ _ _ _ (by simp)]; exact h1)

/-- The sum of both parts' squares. -/
def sq2 (x y : Int) : Int := mag x * mag x + mag y * mag y
theorem sq_bound {x : Int} (h : x ≤ 9223372036854775807) : 0 ≤ mag x * mag x ∧ mag x * mag x ≤ 85070591730234615847396907784232501249 := by
  obtain ⟨h0, h1⟩ := mag_range h
  exact ⟨Int.mul_nonneg h0 h0, Int.le_trans (sq_le h0 h1) (by decide)⟩

set_option maxHeartbeats 800000 in
set_option maxRecDepth 20000 in
theorem vec_square (x y : Int) (w : World) (hx : x ≤ 9223372036854775807) (hy : y ≤ 9223372036854775807) : Calls Try.prog 82 #[.agg #[.int .i64 x, .int .i64 y]] w fun e w' =>
    e = .returned (.agg #[.int .u64 (sq2 x y / 18446744073709551616), .int .u64 (sq2 x y % 18446744073709551616)]) ∧ Below w.heap.size w w' := by
  have A1 := Lib.hid (fun W => fix_abs x W hx)
  have A2 := Lib.hid (fun W => fix_abs y W hy)
  obtain ⟨x0, x1⟩ := mag_range hx
  obtain ⟨y0, y1⟩ := mag_range hy
  have S1 := Lib.hid (fun W => fix_square (mag x) W x0 (by omega))
  have S2 := Lib.hid (fun W => fix_square (mag y) W y0 (by omega))
  obtain ⟨p0, p1⟩ := sq_bound hx
  obtain ⟨q0, q1⟩ := sq_bound hy
  unfold sq2
  generalize mag x * mag x = P at *
  generalize mag y * mag y = Q at *
  have L := Lib.hid (fun W => fix_plus (P / 18446744073709551616) (P % 18446744073709551616) (Q / 18446744073709551616) (Q % 18446744073709551616) W (by omega) (by omega) (by omega) (by omega) (by omega) (by omega) (by omega) (by omega))
  rw [show P / 18446744073709551616 + Q / 18446744073709551616 + (P % 18446744073709551616 + Q % 18446744073709551616) / 18446744073709551616 = (P + Q) / 18446744073709551616 by omega, show (P % 18446744073709551616 + Q % 18446744073709551616) % 18446744073709551616 = (P + Q) % 18446744073709551616 by omega] at L
  generalize (P + Q) / 18446744073709551616 = RH at *
  generalize (P + Q) % 18446744073709551616 = RL at *
  generalize P / 18446744073709551616 = PH at *
  generalize P % 18446744073709551616 = PL at *
  generalize Q / 18446744073709551616 = QH at *
  generalize Q % 18446744073709551616 = QL at *
  generalize mag x = X at *
  generalize mag y = Y at *
  generalize isNeg x = nx at *
  generalize isNeg y = ny at *
  clear p0 p1 q0 q1 x0 x1 y0 y1 P Q
  go_enter Try.func82, Try.ntmps82
  go_wp2_with fail
  refine Calls.mono (A1.out _) ?_
  rintro e w1 ⟨rfl, rfl⟩
  go_wp2_with fail
  refine Calls.mono (A2.out _) ?_
  rintro e w1 ⟨rfl, rfl⟩
  go_wp2_with fail
  refine Calls.mono (S1.out _) ?_
  rintro e w1 ⟨rfl, hb1⟩
  go_wp2_with fail
  refine Calls.mono (S2.out _) ?_
  rintro e w2 ⟨rfl, hb2⟩
  go_wp2_with fail
  refine Calls.mono (L.out _) ?_
  rintro e w3 ⟨rfl, hb3⟩
  have hb := hb1.trans ((hb2.trans (hb3.mono hb2.size)).mono hb1.size)
  obtain ⟨c0, c1, f0, f1, hbw⟩ := own2 _ _ _ _ _ hb
  obtain ⟨s0, s1⟩ := set2 c0 c1 (.int .u64 RH) (.int .u64 RL)
  clear hb hb1 hb2 hb3
  go_wp2
  exact bodyPost_ret (v := .agg #[.int .u64 RH, .int .u64 RL]) (by simp [results, Try.results82, go_sem, s0, s1]) rfl ⟨rfl, (hbw.setCell (by simp) _).setCell (by simp) _⟩

theorem ref_size_mag (a : Int) (w : World) (h : a ≤ 9223372036854775807) : Calls Try.prog 92 #[.int .i64 (nrm a)] w fun e w' => e = .returned (.int .u64 (mag a)) ∧ w = w' := by
  have := nrm_range h
  exact ref_size (nrm a) w this.1 this.2

set_option maxHeartbeats 800000 in
set_option maxRecDepth 20000 in
theorem ref_squares (x y : Int) (w : World) (hx : x ≤ 9223372036854775807) (hy : y ≤ 9223372036854775807) : Calls Try.prog 63 #[.agg #[.int .i64 x, .int .i64 y]] w fun e w' =>
    e = .returned (.agg #[.int .u64 (sq2 x y / 18446744073709551616), .int .u64 (sq2 x y % 18446744073709551616)]) ∧ Below w.heap.size w w' := by
  obtain ⟨x0, x1⟩ := mag_range hx
  obtain ⟨y0, y1⟩ := mag_range hy
  have S1 := Lib.hid (fun W => ref_times (mag x) (mag x) W x0 (by omega) x0 (by omega))
  have S2 := Lib.hid (fun W => ref_times (mag y) (mag y) W y0 (by omega) y0 (by omega))
  obtain ⟨p0, p1⟩ := sq_bound hx
  obtain ⟨q0, q1⟩ := sq_bound hy
  unfold sq2
  generalize mag x * mag x = P at *
  generalize mag y * mag y = Q at *
  have L := Lib.hid (fun W => ref_plus (P / 18446744073709551616) (P % 18446744073709551616) (Q / 18446744073709551616) (Q % 18446744073709551616) W (by omega) (by omega) (by omega) (by omega) (by omega) (by omega) (by omega) (by omega))
  rw [show P / 18446744073709551616 + Q / 18446744073709551616 + (P % 18446744073709551616 + Q % 18446744073709551616) / 18446744073709551616 = (P + Q) / 18446744073709551616 by omega, show (P % 18446744073709551616 + Q % 18446744073709551616) % 18446744073709551616 = (P + Q) % 18446744073709551616 by omega] at L
  generalize (P + Q) / 18446744073709551616 = RH at *
  generalize (P + Q) % 18446744073709551616 = RL at *
  generalize P / 18446744073709551616 = PH at *
  generalize P % 18446744073709551616 = PL at *
  generalize Q / 18446744073709551616 = QH at *
  generalize Q % 18446744073709551616 = QL at *
  generalize hW : (w.alloc (.cells #[.int .i64 x, .int .i64 y] 35)).alloc (.cells #[.int .u64 0, .int .u64 0] 78) = W
  have hc0 : W.cell? ⟨w.heap.size, 0, none⟩ = some (.int .i64 x) := by rw [← hW, World.cell?_alloc_lt _ _ _ (by simp), World.cell?_alloc_at _ _ _ _ rfl]; rfl
  have hc1 : W.cell? ⟨w.heap.size, 1, none⟩ = some (.int .i64 y) := by rw [← hW, World.cell?_alloc_lt _ _ _ (by simp), World.cell?_alloc_at _ _ _ _ rfl]; rfl
  have N1 := Lib.hid (fun n => quiet_of_same2 (n := n) (ref_of x (W.drewN n)))
  have N2 := Lib.hid (fun n => quiet_of_same2 (n := n) (ref_of y (W.drewN n)))
  have Z1 := Lib.hid (fun n => quiet_of_same2 (n := n) (ref_size_mag x (W.drewN n) hx))
  have Z2 := Lib.hid (fun n => quiet_of_same2 (n := n) (ref_size_mag y (W.drewN n) hy))
  generalize mag x = X at *
  generalize mag y = Y at *
  generalize nrm x = nx at *
  generalize nrm y = ny at *
  clear p0 p1 q0 q1 x0 x1 y0 y1 P Q
  go_enter Try.func63, Try.ntmps63
  go_wp2_with fail
  go_quiet (first | (go_at_call 47; with_reducible (first | exact N1.out _ | exact N2.out _)) | (go_at_call 92; with_reducible (first | exact Z1.out _ | exact Z2.out _)))
  go_wp2_with fail
  refine Calls.mono (S1.out _) ?_
  rintro e w1 ⟨rfl, hb1⟩
  go_wp2_with fail
  refine Calls.mono (S2.out _) ?_
  rintro e w2 ⟨rfl, hb2⟩
  go_wp2_with fail
  refine Calls.mono (L.out _) ?_
  rintro e w3 ⟨rfl, hb3⟩
  have hb := hb1.trans ((hb2.trans (hb3.mono hb2.size)).mono hb1.size)
  have hb' : Below W.heap.size W w3 := ⟨hb.os, hb.tape, hb.output, hb.size, hb.block⟩
  clear hb hb1 hb2 hb3 hc0 hc1
  subst hW
  obtain ⟨c0, c1, f0, f1, hbw⟩ := own2 _ _ _ _ _ hb'
  obtain ⟨s0, s1⟩ := set2 c0 c1 (.int .u64 RH) (.int .u64 RL)
  clear hb'
  go_wp2
  exact bodyPost_ret (v := .agg #[.int .u64 RH, .int .u64 RL]) (by simp [results, Try.results63, go_sem, s0, s1]) rfl ⟨rfl, (hbw.setCell (by simp) _).setCell (by simp) _⟩

theorem sq2_range {x y : Int} (hx : x ≤ 9223372036854775807) (hy : y ≤ 9223372036854775807) : 0 ≤ sq2 x y ∧ sq2 x y ≤ 170141183460469231694793815568465002498 := by
  have := sq_bound hx
  have := sq_bound hy
  unfold sq2; omega
/-- How long a way is. -/
def vlen (x y : Int) : Int := rootF (sq2 x y)
theorem vlen_range {x y : Int} (hx : x ≤ 9223372036854775807) (hy : y ≤ 9223372036854775807) : 0 ≤ vlen x y ∧ vlen x y ≤ 9223372036854775807 := rootF_range (sq2_range hx hy).1

theorem vec_len (x y : Int) (w : World) (hx : x ≤ 9223372036854775807) (hy : y ≤ 9223372036854775807) : Calls Try.prog 86 #[.agg #[.int .i64 x, .int .i64 y]] w fun e w' => e = .returned (.int .i64 (vlen x y)) ∧ Below w.heap.size w w' := by
  have S := Lib.hid (fun W => vec_square x y W hx hy)
  have hr := sq2_range hx hy
  have R := Lib.hid (fun W => fix_root (sq2 x y / 18446744073709551616) (sq2 x y % 18446744073709551616) W (by omega) (by omega))
  rw [show sq2 x y / 18446744073709551616 * 18446744073709551616 + sq2 x y % 18446744073709551616 = sq2 x y by omega] at R
  unfold vlen
  generalize rootF (sq2 x y) = L at *
  generalize sq2 x y / 18446744073709551616 = SH at *
  generalize sq2 x y % 18446744073709551616 = SL at *
  clear hr
  go_enter Try.func86, Try.ntmps86
  go_wp2_with fail
  refine Calls.mono (S.out _) ?_
  rintro e w1 ⟨rfl, hb1⟩
  go_wp2_with fail
  refine Calls.mono (R.out _) ?_
  rintro e w2 ⟨rfl, hb2⟩
  go_wp2
  go_ret
  exact ⟨rfl, ((below_one _ _).trans ((hb1.trans (hb2.mono hb1.size)).mono (by simp)))⟩
theorem ref_len (x y : Int) (w : World) (hx : x ≤ 9223372036854775807) (hy : y ≤ 9223372036854775807) : Calls Try.prog 35 #[.agg #[.int .i64 x, .int .i64 y]] w fun e w' => e = .returned (.int .i64 (vlen x y)) ∧ Below w.heap.size w w' := by
  have S := Lib.hid (fun W => ref_squares x y W hx hy)
  have hr := sq2_range hx hy
  have R := Lib.hid (fun W => ref_root (sq2 x y / 18446744073709551616) (sq2 x y % 18446744073709551616) 9223372036854775807 W (by omega) (by omega) (by omega) (by omega) (by omega))
  rw [show sq2 x y / 18446744073709551616 * 18446744073709551616 + sq2 x y % 18446744073709551616 = sq2 x y by omega] at R
  have E := Lib.hid (fun (L : Int) (h : RootM (sq2 x y) 9223372036854775807 L) => show vlen x y = L from rootF_eq (W := sq2 x y) ⟨h.1, h.2.1, h.2.2.1, h.2.2.2⟩)
  generalize vlen x y = V at *
  generalize sq2 x y / 18446744073709551616 = SH at *
  generalize sq2 x y % 18446744073709551616 = SL at *
  clear hr
  go_enter Try.func35, Try.ntmps35
  go_wp2_with fail
  refine Calls.mono (S.out _) ?_
  rintro e w1 ⟨rfl, hb1⟩
  go_wp2_with fail
  refine Calls.mono (R.out _) ?_
  rintro e w2 ⟨L, rfl, hL, hb2⟩
  have hV := E.out L hL
  obtain ⟨l0, l1, _⟩ := hL
  subst hV
  go_wp2
  go_ret
  exact ⟨rfl, ((below_one _ _).trans ((hb1.trans (hb2.mono hb1.size)).mono (by simp)))⟩
end Go.Proofs.Ytjbnpgjndohjcaa
namespace Go.Proofs.Ytjbnpgjndohjcaa
set_option maxRecDepth 20000
open Go.RowKit

set_option maxHeartbeats 800000 in
theorem vec_add (x y p q : Int) (w : World) (hx : x ≤ 9223372036854775807) (hy : y ≤ 9223372036854775807) (hp : p ≤ 9223372036854775807) (hq : q ≤ 9223372036854775807) : Calls Try.prog 59 #[.agg #[.int .i64 x, .int .i64 y], .agg #[.int .i64 p, .int .i64 q]] w fun e w' => e = .returned (.agg #[.int .i64 (fadd x p), .int .i64 (fadd y q)]) ∧ Below w.heap.size w w' := by
  have N1 := Lib.hid (fun W => back_of (fix_add x p W hx hp))
  have N2 := Lib.hid (fun W => back_of (fix_add y q W hy hq))
  generalize fadd x p = X at *
  generalize fadd y q = Y at *
  go_enter Try.func59, Try.ntmps59
  go_wp2_with fail
  generalize hW : ((w.alloc (.cells #[.int .i64 x, .int .i64 y] 35)).alloc (.cells #[.int .i64 p, .int .i64 q] 35)).alloc _ = W
  have hc0 : W.cell? ⟨w.heap.size, 0, none⟩ = some (.int .i64 x) := by rw [← hW, World.cell?_alloc_lt _ _ _ (by simp; omega), World.cell?_alloc_lt _ _ _ (by simp), World.cell?_alloc_at _ _ _ _ rfl]; rfl
  have hc1 : W.cell? ⟨w.heap.size, 1, none⟩ = some (.int .i64 y) := by rw [← hW, World.cell?_alloc_lt _ _ _ (by simp; omega), World.cell?_alloc_lt _ _ _ (by simp), World.cell?_alloc_at _ _ _ _ rfl]; rfl
  have hc2 : W.cell? ⟨w.heap.size + 1, 0, none⟩ = some (.int .i64 p) := by rw [← hW, World.cell?_alloc_lt _ _ _ (by simp), World.cell?_alloc_at _ _ _ _ (by simp)]; rfl
  have hc3 : W.cell? ⟨w.heap.size + 1, 1, none⟩ = some (.int .i64 q) := by rw [← hW, World.cell?_alloc_lt _ _ _ (by simp), World.cell?_alloc_at _ _ _ _ (by simp)]; rfl
  refine wp_region_still_tail 11 (by kernel_rfl) (by kernel_rfl) ?_
  simp only [List.take_succ_cons, List.take_zero, List.drop_succ_cons, List.drop_zero]
  repeat still_step
  still_call (N1.out _)
  repeat still_step
  still_call (N2.out _)
  repeat still_step
  refine wpStill_nil ?_
  change wpList _ _ _ _ _ W.drew
  subst hW
  go_wp2
  exact bodyPost_ret (v := .agg #[.int .i64 X, .int .i64 Y]) (by simp [results, Try.results59, go_sem]) rfl ⟨rfl, ((two_below _ _ _).alloc (by simp; omega) _).drew⟩

set_option maxHeartbeats 800000 in
theorem vec_sub (x y p q : Int) (w : World) (hx : x ≤ 9223372036854775807) (hy : y ≤ 9223372036854775807) (hp : p ≤ 9223372036854775807) (hq : q ≤ 9223372036854775807) : Calls Try.prog 57 #[.agg #[.int .i64 x, .int .i64 y], .agg #[.int .i64 p, .int .i64 q]] w fun e w' => e = .returned (.agg #[.int .i64 (fsub x p), .int .i64 (fsub y q)]) ∧ Below w.heap.size w w' := by
  have N1 := Lib.hid (fun W => back_of (fix_sub x p W hx hp))
  have N2 := Lib.hid (fun W => back_of (fix_sub y q W hy hq))
  generalize fsub x p = X at *
  generalize fsub y q = Y at *
  go_enter Try.func57, Try.ntmps57
  go_wp2_with fail
  generalize hW : ((w.alloc (.cells #[.int .i64 x, .int .i64 y] 35)).alloc (.cells #[.int .i64 p, .int .i64 q] 35)).alloc _ = W
  have hc0 : W.cell? ⟨w.heap.size, 0, none⟩ = some (.int .i64 x) := by rw [← hW, World.cell?_alloc_lt _ _ _ (by simp; omega), World.cell?_alloc_lt _ _ _ (by simp), World.cell?_alloc_at _ _ _ _ rfl]; rfl
  have hc1 : W.cell? ⟨w.heap.size, 1, none⟩ = some (.int .i64 y) := by rw [← hW, World.cell?_alloc_lt _ _ _ (by simp; omega), World.cell?_alloc_lt _ _ _ (by simp), World.cell?_alloc_at _ _ _ _ rfl]; rfl
  have hc2 : W.cell? ⟨w.heap.size + 1, 0, none⟩ = some (.int .i64 p) := by rw [← hW, World.cell?_alloc_lt _ _ _ (by simp), World.cell?_alloc_at _ _ _ _ (by simp)]; rfl
  have hc3 : W.cell? ⟨w.heap.size + 1, 1, none⟩ = some (.int .i64 q) := by rw [← hW, World.cell?_alloc_lt _ _ _ (by simp), World.cell?_alloc_at _ _ _ _ (by simp)]; rfl
  refine wp_region_still_tail 11 (by kernel_rfl) (by kernel_rfl) ?_
  simp only [List.take_succ_cons, List.take_zero, List.drop_succ_cons, List.drop_zero]
  repeat still_step
  still_call (N1.out _)
  repeat still_step
  still_call (N2.out _)
  repeat still_step
  refine wpStill_nil ?_
  change wpList _ _ _ _ _ W.drew
  subst hW
  go_wp2
  exact bodyPost_ret (v := .agg #[.int .i64 X, .int .i64 Y]) (by simp [results, Try.results57, go_sem]) rfl ⟨rfl, ((two_below _ _ _).alloc (by simp; omega) _).drew⟩

set_option maxHeartbeats 800000 in
theorem ref_vadd (x y p q : Int) (w : World) (hx : x ≤ 9223372036854775807) (hy : y ≤ 9223372036854775807) (hp : p ≤ 9223372036854775807) (hq : q ≤ 9223372036854775807) : Calls Try.prog 60 #[.agg #[.int .i64 x, .int .i64 y], .agg #[.int .i64 p, .int .i64 q]] w fun e w' => e = .returned (.agg #[.int .i64 (fadd x p), .int .i64 (fadd y q)]) ∧ Below w.heap.size w w' := by
  have N1 := Lib.hid (fun W => back_of (ref_add x p W hx hp))
  have N2 := Lib.hid (fun W => back_of (ref_add y q W hy hq))
  generalize fadd x p = X at *
  generalize fadd y q = Y at *
  go_enter Try.func60, Try.ntmps60
  go_wp2_with fail
  generalize hW : ((w.alloc (.cells #[.int .i64 x, .int .i64 y] 35)).alloc (.cells #[.int .i64 p, .int .i64 q] 35)).alloc _ = W
  have hc0 : W.cell? ⟨w.heap.size, 0, none⟩ = some (.int .i64 x) := by rw [← hW, World.cell?_alloc_lt _ _ _ (by simp; omega), World.cell?_alloc_lt _ _ _ (by simp), World.cell?_alloc_at _ _ _ _ rfl]; rfl
  have hc1 : W.cell? ⟨w.heap.size, 1, none⟩ = some (.int .i64 y) := by rw [← hW, World.cell?_alloc_lt _ _ _ (by simp; omega), World.cell?_alloc_lt _ _ _ (by simp), World.cell?_alloc_at _ _ _ _ rfl]; rfl
  have hc2 : W.cell? ⟨w.heap.size + 1, 0, none⟩ = some (.int .i64 p) := by rw [← hW, World.cell?_alloc_lt _ _ _ (by simp), World.cell?_alloc_at _ _ _ _ (by simp)]; rfl
  have hc3 : W.cell? ⟨w.heap.size + 1, 1, none⟩ = some (.int .i64 q) := by rw [← hW, World.cell?_alloc_lt _ _ _ (by simp), World.cell?_alloc_at _ _ _ _ (by simp)]; rfl
  refine wp_region_still_tail 11 (by kernel_rfl) (by kernel_rfl) ?_
  simp only [List.take_succ_cons, List.take_zero, List.drop_succ_cons, List.drop_zero]
  repeat still_step
  still_call (N1.out _)
  repeat still_step
  still_call (N2.out _)
  repeat still_step
  refine wpStill_nil ?_
  change wpList _ _ _ _ _ W.drew
  subst hW
  go_wp2
  exact bodyPost_ret (v := .agg #[.int .i64 X, .int .i64 Y]) (by simp [results, Try.results60, go_sem]) rfl ⟨rfl, ((two_below _ _ _).alloc (by simp; omega) _).drew⟩

set_option maxHeartbeats 800000 in
theorem ref_vsub (x y p q : Int) (w : World) (hx : x ≤ 9223372036854775807) (hy : y ≤ 9223372036854775807) (hp : p ≤ 9223372036854775807) (hq : q ≤ 9223372036854775807) : Calls Try.prog 36 #[.agg #[.int .i64 x, .int .i64 y], .agg #[.int .i64 p, .int .i64 q]] w fun e w' => e = .returned (.agg #[.int .i64 (fsub x p), .int .i64 (fsub y q)]) ∧ Below w.heap.size w w' := by
  have N1 := Lib.hid (fun W => back_of (ref_sub x p W hx hp))
  have N2 := Lib.hid (fun W => back_of (ref_sub y q W hy hq))
  generalize fsub x p = X at *
  generalize fsub y q = Y at *
  go_enter Try.func36, Try.ntmps36
  go_wp2_with fail
  generalize hW : ((w.alloc (.cells #[.int .i64 x, .int .i64 y] 35)).alloc (.cells #[.int .i64 p, .int .i64 q] 35)).alloc _ = W
  have hc0 : W.cell? ⟨w.heap.size, 0, none⟩ = some (.int .i64 x) := by rw [← hW, World.cell?_alloc_lt _ _ _ (by simp; omega), World.cell?_alloc_lt _ _ _ (by simp), World.cell?_alloc_at _ _ _ _ rfl]; rfl
  have hc1 : W.cell? ⟨w.heap.size, 1, none⟩ = some (.int .i64 y) := by rw [← hW, World.cell?_alloc_lt _ _ _ (by simp; omega), World.cell?_alloc_lt _ _ _ (by simp), World.cell?_alloc_at _ _ _ _ rfl]; rfl
  have hc2 : W.cell? ⟨w.heap.size + 1, 0, none⟩ = some (.int .i64 p) := by rw [← hW, World.cell?_alloc_lt _ _ _ (by simp), World.cell?_alloc_at _ _ _ _ (by simp)]; rfl
  have hc3 : W.cell? ⟨w.heap.size + 1, 1, none⟩ = some (.int .i64 q) := by rw [← hW, World.cell?_alloc_lt _ _ _ (by simp), World.cell?_alloc_at _ _ _ _ (by simp)]; rfl
  refine wp_region_still_tail 11 (by kernel_rfl) (by kernel_rfl) ?_
  simp only [List.take_succ_cons, List.take_zero, List.drop_succ_cons, List.drop_zero]
  repeat still_step
  still_call (N1.out _)
  repeat still_step
  still_call (N2.out _)
  repeat still_step
  refine wpStill_nil ?_
  change wpList _ _ _ _ _ W.drew
  subst hW
  go_wp2
  exact bodyPost_ret (v := .agg #[.int .i64 X, .int .i64 Y]) (by simp [results, Try.results36, go_sem]) rfl ⟨rfl, ((two_below _ _ _).alloc (by simp; omega) _).drew⟩

end Go.Proofs.Ytjbnpgjndohjcaa
namespace Go.Proofs.Ytjbnpgjndohjcaa
set_option maxRecDepth 20000
open Go.RowKit Go.WideShapes Go.ChangeShapes

/-- A slice of thronglaw2.Ask that came in. -/
def Asks2 (w : World) (A : Option Addr) (n : Nat) : Prop := ∀ i, i < n → ∃ (b o : Nat) (x y p q k : Int),
  A = some ⟨b, o, none⟩ ∧ b < w.heap.size ∧ w.cell? ⟨b, o + i * 5, none⟩ = some (.int .i64 x) ∧ w.cell? ⟨b, o + i * 5 + 1, none⟩ = some (.int .i64 y) ∧ w.cell? ⟨b, o + i * 5 + 2, none⟩ = some (.int .i64 p) ∧ w.cell? ⟨b, o + i * 5 + 3, none⟩ = some (.int .i64 q) ∧ w.cell? ⟨b, o + i * 5 + 4, none⟩ = some (.int .i64 k) ∧
  (-9223372036854775808 ≤ x ∧ x ≤ 9223372036854775807) ∧ (-9223372036854775808 ≤ y ∧ y ≤ 9223372036854775807) ∧ (-9223372036854775808 ≤ p ∧ p ≤ 9223372036854775807) ∧ (-9223372036854775808 ≤ q ∧ q ≤ 9223372036854775807) ∧ (-9223372036854775808 ≤ k ∧ k ≤ 9223372036854775807)
theorem Asks2.below {w w' : World} {A : Option Addr} {n : Nat} (h : Asks2 w A n) (hb : Below w.heap.size w w') : Asks2 w' A n := fun i hi => by
  obtain ⟨b, o, x, y, p, q, k, h1, h2, h3, h4, h5, h6, h7, h8⟩ := h i hi
  exact ⟨b, o, x, y, p, q, k, h1, Nat.lt_of_lt_of_le h2 hb.size, (hb.cell h2).trans h3, (hb.cell h2).trans h4, (hb.cell h2).trans h5, (hb.cell h2).trans h6, (hb.cell h2).trans h7, h8⟩
theorem wake_len : vlen 196608 262144 = 327680 := by decide +kernel
end Go.Proofs.Ytjbnpgjndohjcaa
namespace Go.Proofs.Ytjbnpgjndohjcaa
set_option maxRecDepth 20000
open Go.RowKit

/-- Whether two places are nearer than r. -/
def vwithin (x y p q r : Int) : Bool := decide (0 < r ∧ sq2 (fsub x p) (fsub y q) < r * r)
theorem fsub_range (x p : Int) : -9223372036854775807 ≤ fsub x p ∧ fsub x p ≤ 9223372036854775807 := fadd_range _ _
theorem sq_below {r : Int} (h0 : 0 ≤ r) (h1 : r ≤ 9223372036854775807) : 0 ≤ r * r ∧ r * r ≤ 85070591730234615847396907784232501249 :=
  ⟨Int.mul_nonneg h0 h0, Int.le_trans (sq_le h0 h1) (by decide)⟩
theorem less_split {S R : Int} : lessW (S / 18446744073709551616) (S % 18446744073709551616) (R / 18446744073709551616) (R % 18446744073709551616) = decide (S < R) := by
  rw [lessW_eq (by omega) (by omega) (by omega) (by omega), show S / 18446744073709551616 * 18446744073709551616 + S % 18446744073709551616 = S by omega, show R / 18446744073709551616 * 18446744073709551616 + R % 18446744073709551616 = R by omega]

set_option maxHeartbeats 800000 in
theorem vec_within (x y p q r : Int) (w : World) (hx : x ≤ 9223372036854775807) (hy : y ≤ 9223372036854775807) (hp : p ≤ 9223372036854775807) (hq : q ≤ 9223372036854775807) (hr : r ≤ 9223372036854775807) :
    Calls Try.prog 54 #[.agg #[.int .i64 x, .int .i64 y], .agg #[.int .i64 p, .int .i64 q], .int .i64 r] w fun e w' => e = .returned (.bool (vwithin x y p q r)) ∧ Below w.heap.size w w' := by
  by_cases h0 : r ≤ 0
  · have HV : Hid (vwithin x y p q r = false) := decide_eq_false (by omega)
    generalize vwithin x y p q r = V at *
    go_enter Try.func54, Try.ntmps54
    go_wp2
    go_ret
    exact ⟨by rw [HV.out]; rfl, two_below _ _ _⟩
  · have h1 : 0 < r := by omega
    have HV : Hid (vwithin x y p q r = lessW (sq2 (fsub x p) (fsub y q) / 18446744073709551616) (sq2 (fsub x p) (fsub y q) % 18446744073709551616) (r * r / 18446744073709551616) (r * r % 18446744073709551616)) := by
      show _ = _
      rw [less_split]; unfold vwithin; exact decide_eq_decide.2 ⟨fun h => h.2, fun h => ⟨h1, h⟩⟩
    have S1 := Lib.hid (fun W => vec_sub x y p q W hx hy hp hq)
    have S2 := Lib.hid (fun W => vec_square (fsub x p) (fsub y q) W (fsub_range x p).2 (fsub_range y q).2)
    have S3 := Lib.hid (fun W => fix_square r W (by omega) (by omega))
    generalize vwithin x y p q r = V at *
    generalize sq2 (fsub x p) (fsub y q) / 18446744073709551616 = SH at *
    generalize sq2 (fsub x p) (fsub y q) % 18446744073709551616 = SL at *
    generalize r * r / 18446744073709551616 = RH at *
    generalize r * r % 18446744073709551616 = RL at *
    have S4 := Lib.hid (fun W => fix_below SH SL RH RL W)
    generalize lessW SH SL RH RL = LW at *
    generalize fsub x p = a at *
    generalize fsub y q = b at *
    clear h0
    go_enter Try.func54, Try.ntmps54
    go_wp2_with fail
    refine Calls.mono (S1.out _) ?_
    rintro e w1 ⟨rfl, hb1⟩
    go_wp2_with fail
    refine Calls.mono (S2.out _) ?_
    rintro e w2 ⟨rfl, hb2⟩
    go_wp2_with fail
    refine Calls.mono (S3.out _) ?_
    rintro e w3 ⟨rfl, hb3⟩
    go_wp2_with fail
    refine Calls.mono (S4.out _) ?_
    rintro e w4 ⟨rfl, hb4⟩
    go_wp2
    go_ret
    have z1 := hb1.size
    have z2 := hb2.size
    have z3 := hb3.size
    have hb := hb1.trans ((hb2.trans ((hb3.trans (hb4.mono z3)).mono z2)).mono z1)
    exact ⟨by rw [HV.out]; rfl, (two_below _ _ _).trans (hb.mono (by simp; omega))⟩

set_option maxHeartbeats 800000 in
theorem ref_within (x y p q r : Int) (w : World) (hx : x ≤ 9223372036854775807) (hy : y ≤ 9223372036854775807) (hp : p ≤ 9223372036854775807) (hq : q ≤ 9223372036854775807) (hr : r ≤ 9223372036854775807) :
    Calls Try.prog 37 #[.agg #[.int .i64 x, .int .i64 y], .agg #[.int .i64 p, .int .i64 q], .int .i64 r] w fun e w' => e = .returned (.bool (vwithin x y p q r)) ∧ Below w.heap.size w w' := by
  have N0 := Lib.hid (fun W => ref_of r W)
  by_cases h0 : r < 0
  · have HV : Hid (vwithin x y p q r = false) := decide_eq_false (by omega)
    have hn : nrm r < 0 := by unfold nrm; split <;> omega
    generalize vwithin x y p q r = V at *
    generalize nrm r = R at *
    go_enter Try.func37, Try.ntmps37
    go_wp2_with fail
    refine Calls.mono (N0.out _) ?_
    rintro e w1 ⟨rfl, rfl⟩
    go_wp2
    go_ret
    exact ⟨by rw [HV.out]; rfl, two_below _ _ _⟩
  · have h1 : 0 ≤ r := by omega
    have hS : 0 ≤ sq2 (fsub x p) (fsub y q) := (sq2_range (fsub_range x p).2 (fsub_range y q).2).1
    have HV : Hid (vwithin x y p q r = lessW (sq2 (fsub x p) (fsub y q) / 18446744073709551616) (sq2 (fsub x p) (fsub y q) % 18446744073709551616) (r * r / 18446744073709551616) (r * r % 18446744073709551616)) := by
      show _ = _
      rw [less_split]; unfold vwithin
      refine decide_eq_decide.2 ⟨fun h => h.2, fun h => ⟨?_, h⟩⟩
      by_cases hz : r = 0
      · subst hz; omega
      · omega
    rw [nrm_id (by omega)] at N0
    have S1 := Lib.hid (fun W => ref_vsub x y p q W hx hy hp hq)
    have S2 := Lib.hid (fun W => ref_squares (fsub x p) (fsub y q) W (fsub_range x p).2 (fsub_range y q).2)
    have S3 := Lib.hid (fun W => ref_times r r W (by omega) (by omega) (by omega) (by omega))
    generalize vwithin x y p q r = V at *
    generalize sq2 (fsub x p) (fsub y q) / 18446744073709551616 = SH at *
    generalize sq2 (fsub x p) (fsub y q) % 18446744073709551616 = SL at *
    generalize r * r / 18446744073709551616 = RH at *
    generalize r * r % 18446744073709551616 = RL at *
    have S4 := Lib.hid (fun W => ref_less SH SL RH RL W)
    generalize lessW SH SL RH RL = LW at *
    clear hS
    generalize fsub x p = a at *
    generalize fsub y q = b at *
    clear h0
    go_enter Try.func37, Try.ntmps37
    go_wp2_with fail
    refine Calls.mono (N0.out _) ?_
    rintro e w1 ⟨rfl, rfl⟩
    go_wp2_with fail
    refine Calls.mono (S1.out _) ?_
    rintro e w1 ⟨rfl, hb1⟩
    go_wp2_with fail
    refine Calls.mono (S2.out _) ?_
    rintro e w2 ⟨rfl, hb2⟩
    go_wp2_with fail
    refine Calls.mono (S3.out _) ?_
    rintro e w3 ⟨rfl, hb3⟩
    go_wp2_with fail
    refine Calls.mono (S4.out _) ?_
    rintro e w4 ⟨rfl, hb4⟩
    go_wp2
    go_ret
    have z1 := hb1.size
    have z2 := hb2.size
    have z3 := hb3.size
    have hb := hb1.trans ((hb2.trans ((hb3.trans (hb4.mono z3)).mono z2)).mono z1)
    exact ⟨by rw [HV.out]; rfl, (two_below _ _ _).trans (hb.mono (by simp; omega))⟩
theorem vwithin_no (x y p q : Int) : vwithin x y p q 0 = false := decide_eq_false (by omega)
theorem fsub_self {x : Int} (hx : x ≤ 9223372036854775807) : fsub x x = 0 := by
  have := nrm_range hx
  unfold fsub fneg fadd
  rw [nrm_id (a := -(nrm x)) (by omega), show nrm x + -(nrm x) = 0 by omega]
  rfl
theorem vwithin_yes {x y : Int} (hx : x ≤ 9223372036854775807) (hy : y ≤ 9223372036854775807) : vwithin x y x y 1 = true := decide_eq_true (by
  rw [fsub_self hx, fsub_self hy]
  exact ⟨by omega, by decide⟩)
theorem vec_within_no (x y p q : Int) (w : World) (hx : x ≤ 9223372036854775807) (hy : y ≤ 9223372036854775807) (hp : p ≤ 9223372036854775807) (hq : q ≤ 9223372036854775807) :
    Calls Try.prog 54 #[.agg #[.int .i64 x, .int .i64 y], .agg #[.int .i64 p, .int .i64 q], .int .i64 0] w fun e w' => e = .returned (.bool false) ∧ Below w.heap.size w w' := by
  have := vec_within x y p q 0 w hx hy hp hq (by omega)
  rw [vwithin_no] at this
  exact this
theorem vec_within_yes (x y : Int) (w : World) (hx : x ≤ 9223372036854775807) (hy : y ≤ 9223372036854775807) :
    Calls Try.prog 54 #[.agg #[.int .i64 x, .int .i64 y], .agg #[.int .i64 x, .int .i64 y], .int .i64 1] w fun e w' => e = .returned (.bool true) ∧ Below w.heap.size w w' := by
  have := vec_within x y x y 1 w hx hy hx hy (by omega)
  rw [vwithin_yes hx hy] at this
  exact this
end Go.Proofs.Ytjbnpgjndohjcaa
