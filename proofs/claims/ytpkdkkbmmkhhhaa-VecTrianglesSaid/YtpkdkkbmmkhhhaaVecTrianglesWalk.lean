/- The walk of the law VecTriangles. -/
import Derived.Test.YtpkdkkbmmkhhhaaVecTriMath
import Derived.Test.YtpkdkkbmmkhhhaaBoxes
import Derived.Test.YtpkdkkbmmkhhhaaBlk
namespace Go.Proofs.Ytpkdkkbmmkhhhaa
set_option maxRecDepth 20000
open Go.RowKit Go.WideShapes Go.ChangeShapes

theorem small2 (x y : Int) (w : World) :
    Calls Try.prog 33 #[.agg #[.int .i64 x, .int .i64 y]] w fun e w' => e = .returned (.agg #[.int .i64 (x / 16), .int .i64 (y / 16)]) ∧ Below w.heap.size w w' := by
  go_enter Try.func33, Try.ntmps33
  go_wp2
  exact bodyPost_ret (v := .agg #[.int .i64 (x / 16), .int .i64 (y / 16)]) (by simp [results, Try.results33, go_sem]) rfl ⟨rfl, two_below _ _ _⟩

namespace lawVecTriangles
set_option maxHeartbeats 6400000 in
set_option maxRecDepth 100000 in
theorem walk {H : Type} {enc : TypeId × Value → H} (w : World) {base : Nat} (v : Value) (d : DataW H) (p : List MemPlace) (hv : Value.okWide Try.prog w .any base 22 v)
    (ht : DataW.Trod enc Try.prog w 0 (fun _ => true) true 22 v d p) : Calls Try.prog 9 #[v] w fun e w' => e = .returned (.bool true) ∧ Below w.heap.size w w' := by
  obtain ⟨A, n, c, rfl, hnc, hcm, ha⟩ := open_asks2 hv ht
  unfold maxLen at hcm
  clear hv ht
  go_enter Try.func9, Try.ntmps9
  go_wp2_with fail
  go_loopw [3] (fun i wr => ∃ (k : Nat), k ≤ n ∧ k ≤ 30 ∧ i = .int .i64 k ∧ Below w.heap.size w wr) (fun i _ => n - (intOf i).toNat)
  case atStart => exact ⟨0, Nat.zero_le _, by omega, rfl, Below.refl _ _⟩
  case round =>
    obtain ⟨k, hk, hk30, rfl, hbl⟩ := hrel
    by_cases hlt : k + 1 < n ∧ k < 30
    case neg =>
      rcases (show n ≤ k + 1 ∨ (k + 1 < n ∧ 30 ≤ k) by omega) with h1 | ⟨h1, h2⟩
      all_goals
        clear hlt ha
        have HB := Lib.hid hbl
        clear hbl
        go_wp2_with fail
        refine Calls.mono (wakes2 _) ?_
        rintro e w3 ⟨rfl, hb3⟩
        have HB2 := Lib.hid (HB.out.trans (hb3.mono HB.out.size))
        clear hb3
        go_wp2_with fail
        go_ret
        exact ⟨rfl, HB2.out⟩
    obtain ⟨hlt1, hk30'⟩ := hlt
    obtain ⟨b, o, x, y, p, q, z, rfl, hb, hc1, hc2, hc3, hc4, hc5, ⟨hx0, hx1⟩, ⟨hy0, hy1⟩, ⟨hp0, hp1⟩, ⟨hq0, hq1⟩, ⟨hz0, hz1⟩⟩ := ha.below hbl k (by omega)
    obtain ⟨_, _, s, t, _, _, _, he, _, hd1, hd2, _, _, _, ⟨hs0, hs1⟩, ⟨ht0, ht1⟩, _, _, _⟩ := ha.below hbl (k + 1) hlt1
    simp only [Option.some.injEq, Addr.mk.injEq, and_true] at he
    obtain ⟨rfl, rfl⟩ := he
    clear ha
    have ki : (k : Int) + 1 < (n : Int) := by omega
    have ki2 : (k : Int) < (n : Int) := by omega
    have ki30 : (k : Int) < 30 := by omega
    have hw1 : IntKind.i64.wrap ((k : Int) + 1) = (k : Int) + 1 := IntWalk.i64_in _ (by omega)
    have hk10 : (0 : Int) ≤ (k : Int) + 1 := by omega
    have htn : ((k : Int) + 1).toNat = k + 1 := by omega
    have S1 := Lib.hid (fun W => small2 x y W)
    have S2 := Lib.hid (fun W => small2 p q W)
    have S3 := Lib.hid (fun W => small2 s t W)
    have bx : -576460752303423488 ≤ x / 16 ∧ x / 16 ≤ 576460752303423488 := by omega
    have by_ : -576460752303423488 ≤ y / 16 ∧ y / 16 ≤ 576460752303423488 := by omega
    have bp : -576460752303423488 ≤ p / 16 ∧ p / 16 ≤ 576460752303423488 := by omega
    have bq : -576460752303423488 ≤ q / 16 ∧ q / 16 ≤ 576460752303423488 := by omega
    have bs : -576460752303423488 ≤ s / 16 ∧ s / 16 ≤ 576460752303423488 := by omega
    have bt : -576460752303423488 ≤ t / 16 ∧ t / 16 ≤ 576460752303423488 := by omega
    generalize x / 16 = X at *
    generalize y / 16 = Y at *
    generalize p / 16 = P at *
    generalize q / 16 = Q at *
    generalize s / 16 = S at *
    generalize t / 16 = T at *
    clear hx0 hx1 hy0 hy1 hp0 hp1 hq0 hq1 hs0 hs1 ht0 ht1
    go_wp2_with fail
    refine' wp_region_boxes (T := 25) (e := 3) (by decide) [.val _, .val _, .val _, .val _, .val _, .val _, .val _, .val _, .val _, .val _, .val _, .val _, .val _, .val _, .val _, .val _, .val _, .val _, .val _, .box #[.int .i64 0, .int .i64 0], .box #[.int .i64 0, .int .i64 0], .box #[.int .i64 0, .int .i64 0], .put 19 (fun X9 w9 => w9.heap[X9]? = some (.cells #[.int .i64 X, .int .i64 Y] 25 (0, 0))) (fun X9 w9 w8 h hk hx => hx.trans h), .put 20 (fun X9 w9 => w9.heap[X9]? = some (.cells #[.int .i64 P, .int .i64 Q] 25 (0, 0))) (fun X9 w9 w8 h hk hx => hx.trans h), .put 21 (fun X9 w9 => w9.heap[X9]? = some (.cells #[.int .i64 S, .int .i64 T] 25 (0, 0))) (fun X9 w9 w8 h hk hx => hx.trans h)] (A := _) ?hAa (by kernel_rfl) (by kernel_rfl) (by rfl) ?hxa ?stepsa ?henda
    case hAa =>
      intro uf X9 hX9
      simp only [fillK, Act.put, List.setIfInBounds_toArray, List.set_cons_zero, List.set_cons_succ, Nat.reduceAdd]
      (try go_simp)
      exact hX9
    case stepsa =>
      refine ⟨fun uf W HB hd => ?_, ?_⟩
      · clear hd
        intro K hK
        go_simp
        refine hK _ _ (Below.refl _ _) ?_
        (show _ = _); rfl
      refine ⟨fun uf W HB hd => ?_, ?_⟩
      · clear hd
        intro K hK
        go_simp
        refine hK _ _ (Below.refl _ _) ?_
        (show _ = _); rfl
      refine ⟨fun uf W HB hd => ?_, ?_⟩
      · clear hd
        intro K hK
        go_simp
        refine hK _ _ (Below.refl _ _) ?_
        (show _ = _); rfl
      refine ⟨fun uf W HB hd => ?_, ?_⟩
      · clear hd
        intro K hK
        go_simp
        refine hK _ _ (Below.refl _ _) ?_
        (show _ = _); rfl
      refine ⟨fun uf W HB hd => ?_, ?_⟩
      · clear hd
        have q1 := (HB.cell hb).trans hc1
        have q2 := (HB.cell hb).trans hc2
        intro K hK
        go_simp
        refine hK _ _ (Below.refl _ _) ?_
        (show _ = _); rfl
      refine ⟨fun uf W HB hd => ?_, ?_⟩
      · clear hd
        intro K hK
        go_simp
        (with_reducible refine Calls.mono (S1.out W) ?_)
        rintro e wn ⟨rfl, hbn⟩
        refine hK _ _ hbn ?_
        (show _ = _); rfl
      refine ⟨fun uf W HB hd => ?_, ?_⟩
      · clear hd
        intro K hK
        go_simp
        refine hK _ _ (Below.refl _ _) ?_
        (show _ = _); rfl
      refine ⟨fun uf W HB hd => ?_, ?_⟩
      · clear hd
        intro K hK
        go_simp
        refine hK _ _ (Below.refl _ _) ?_
        (show _ = _); rfl
      refine ⟨fun uf W HB hd => ?_, ?_⟩
      · clear hd
        intro K hK
        go_simp
        refine hK _ _ (Below.refl _ _) ?_
        (show _ = _); rfl
      refine ⟨fun uf W HB hd => ?_, ?_⟩
      · clear hd
        intro K hK
        go_simp
        refine hK _ _ (Below.refl _ _) ?_
        (show _ = _); rfl
      refine ⟨fun uf W HB hd => ?_, ?_⟩
      · clear hd
        have q3 := (HB.cell hb).trans hc3
        have q4 := (HB.cell hb).trans hc4
        intro K hK
        go_simp
        refine hK _ _ (Below.refl _ _) ?_
        (show _ = _); rfl
      refine ⟨fun uf W HB hd => ?_, ?_⟩
      · clear hd
        intro K hK
        go_simp
        (with_reducible refine Calls.mono (S2.out W) ?_)
        rintro e wn ⟨rfl, hbn⟩
        refine hK _ _ hbn ?_
        (show _ = _); rfl
      refine ⟨fun uf W HB hd => ?_, ?_⟩
      · clear hd
        intro K hK
        go_simp
        refine hK _ _ (Below.refl _ _) ?_
        (show _ = _); rfl
      refine ⟨fun uf W HB hd => ?_, ?_⟩
      · clear hd
        intro K hK
        go_simp
        refine hK _ _ (Below.refl _ _) ?_
        (show _ = _); rfl
      refine ⟨fun uf W HB hd => ?_, ?_⟩
      · clear hd
        intro K hK
        go_simp
        refine hK _ _ (Below.refl _ _) ?_
        (show _ = _); rfl
      refine ⟨fun uf W HB hd => ?_, ?_⟩
      · clear hd
        intro K hK
        go_simp
        refine hK _ _ (Below.refl _ _) ?_
        (show _ = _); rfl
      refine ⟨fun uf W HB hd => ?_, ?_⟩
      · clear hd
        intro K hK
        go_simp
        refine hK _ _ (Below.refl _ _) ?_
        (show _ = _); rfl
      refine ⟨fun uf W HB hd => ?_, ?_⟩
      · clear hd
        have q5 := (HB.cell hb).trans hd1
        have q6 := (HB.cell hb).trans hd2
        intro K hK
        go_simp
        refine hK _ _ (Below.refl _ _) ?_
        (show _ = _); rfl
      refine ⟨fun uf W HB hd => ?_, ?_⟩
      · clear hd
        intro K hK
        go_simp
        (with_reducible refine Calls.mono (S3.out W) ?_)
        rintro e wn ⟨rfl, hbn⟩
        refine hK _ _ hbn ?_
        (show _ = _); rfl
      refine ⟨fun uf W HB hd => ?_, ?_⟩
      · clear hd
        intro K hK
        go_simp
        exact hK _ _ rfl rfl
      refine ⟨fun uf W HB hd => ?_, ?_⟩
      · clear hd
        intro K hK
        go_simp
        exact hK _ _ rfl rfl
      refine ⟨fun uf W HB hd => ?_, ?_⟩
      · clear hd
        intro K hK
        go_simp
        exact hK _ _ rfl rfl
      refine ⟨fun uf W HB hd => ?_, ?_⟩
      · have h19 := hd 19 (by decide); clear hd
        intro X9 hX9 hBX hz9 K hK
        have hC : Blk W X9 #[.int .i64 0, .int .i64 0] 25 := hz9
        have x0 := hC.cell (i := 0) rfl
        have x1 := hC.cell (i := 1) rfl
        have f0 := hC.free 0
        have f1 := hC.free 1
        have hC2 : Blk ((W.setCell ⟨X9, 0, none⟩ (.int .i64 X)).setCell ⟨X9, 1, none⟩ (.int .i64 Y)) X9 #[.int .i64 X, .int .i64 Y] 25 := (hC.set 0 _).set 1 _
        simp only [hX9, boxPtr] at hK ⊢
        go_simp
        exact hK undef _ (((Below.refl X9 W).setCell (Nat.le_refl _) _).setCell (Nat.le_refl _) _) (fun j hj => (Below.heap_setCell _ _ _ _ hj).trans (Below.heap_setCell _ _ _ _ hj)) ⟨_, hC2⟩ hC2
      refine ⟨fun uf W HB hd => ?_, ?_⟩
      · have h20 := hd 20 (by decide); clear hd
        intro X9 hX9 hBX hz9 K hK
        have hC : Blk W X9 #[.int .i64 0, .int .i64 0] 25 := hz9
        have x0 := hC.cell (i := 0) rfl
        have x1 := hC.cell (i := 1) rfl
        have f0 := hC.free 0
        have f1 := hC.free 1
        have hC2 : Blk ((W.setCell ⟨X9, 0, none⟩ (.int .i64 P)).setCell ⟨X9, 1, none⟩ (.int .i64 Q)) X9 #[.int .i64 P, .int .i64 Q] 25 := (hC.set 0 _).set 1 _
        simp only [hX9, boxPtr] at hK ⊢
        go_simp
        exact hK undef _ (((Below.refl X9 W).setCell (Nat.le_refl _) _).setCell (Nat.le_refl _) _) (fun j hj => (Below.heap_setCell _ _ _ _ hj).trans (Below.heap_setCell _ _ _ _ hj)) ⟨_, hC2⟩ hC2
      refine ⟨fun uf W HB hd => ?_, ?_⟩
      · have h21 := hd 21 (by decide); clear hd
        intro X9 hX9 hBX hz9 K hK
        have hC : Blk W X9 #[.int .i64 0, .int .i64 0] 25 := hz9
        have x0 := hC.cell (i := 0) rfl
        have x1 := hC.cell (i := 1) rfl
        have f0 := hC.free 0
        have f1 := hC.free 1
        have hC2 : Blk ((W.setCell ⟨X9, 0, none⟩ (.int .i64 S)).setCell ⟨X9, 1, none⟩ (.int .i64 T)) X9 #[.int .i64 S, .int .i64 T] 25 := (hC.set 0 _).set 1 _
        simp only [hX9, boxPtr] at hK ⊢
        go_simp
        exact hK undef _ (((Below.refl X9 W).setCell (Nat.le_refl _) _).setCell (Nat.le_refl _) _) (fun j hj => (Below.heap_setCell _ _ _ _ hj).trans (Below.heap_setCell _ _ _ _ hj)) ⟨_, hC2⟩ hC2
      trivial
    case hxa => kernel_rfl
    case henda =>
      intro uf w1 HB hd
      have h22 := hd 22 (by decide)
      have h23 := hd 23 (by decide)
      have h24 := hd 24 (by decide)
      clear hd
      obtain ⟨GA, e19, hB19, hl19, hh19⟩ : ∃ X9, uf 19 = boxPtr X9 ∧ wr.heap.size ≤ X9 ∧ X9 < w1.heap.size ∧ w1.heap[X9]? = some (.cells #[.int .i64 X, .int .i64 Y] 25 (0, 0)) := h22
      obtain ⟨GB, e20, hB20, hl20, hh20⟩ : ∃ X9, uf 20 = boxPtr X9 ∧ wr.heap.size ≤ X9 ∧ X9 < w1.heap.size ∧ w1.heap[X9]? = some (.cells #[.int .i64 P, .int .i64 Q] 25 (0, 0)) := h23
      obtain ⟨GC, e21, hB21, hl21, hh21⟩ : ∃ X9, uf 21 = boxPtr X9 ∧ wr.heap.size ≤ X9 ∧ X9 < w1.heap.size ∧ w1.heap[X9]? = some (.cells #[.int .i64 S, .int .i64 T] 25 (0, 0)) := h24
      simp only [e19, e20, e21, boxPtr]
      have hbGA : Blk w1 GA #[.int .i64 X, .int .i64 Y] 25 := hh19
      have hbGB : Blk w1 GB #[.int .i64 P, .int .i64 Q] 25 := hh20
      have hbGC : Blk w1 GC #[.int .i64 S, .int .i64 T] 25 := hh21
      clear e19 e20 e21 hB19 hB20 hB21 hh19 hh20 hh21
      replace hc5 := (HB.cell hb).trans hc5
      replace hb := Nat.lt_of_lt_of_le hb HB.size
      replace hbl := hbl.trans (HB.mono hbl.size)
      clear HB hc1 hc2 hc3 hc4 hd1 hd2 S1 S2 S3
      obtain ⟨⟨l0, l1⟩, ⟨m0, m1⟩, ⟨n0, n1⟩, htri, hsym, hwi⟩ := tri_all (r := z) bx.1 bx.2 by_.1 by_.2 bp.1 bp.2 bq.1 bq.2 bs.1 bs.2 bt.1 bt.2
      have V1 := fun u => calls_over (x := u) (vec_sub X Y P Q (over w1 u) (by omega) (by omega) (by omega) (by omega))
      have V2 := fun u => calls_over (x := u) (vec_sub X Y S T (over w1 u) (by omega) (by omega) (by omega) (by omega))
      have V3 := fun u => calls_over (x := u) (vec_sub S T P Q (over w1 u) (by omega) (by omega) (by omega) (by omega))
      have L1 := fun u => calls_over (x := u) (vec_len (fsub X P) (fsub Y Q) (over w1 u) (fsub_range _ _).2 (fsub_range _ _).2)
      have L2 := fun u => calls_over (x := u) (vec_len (fsub X S) (fsub Y T) (over w1 u) (fsub_range _ _).2 (fsub_range _ _).2)
      have L3 := fun u => calls_over (x := u) (vec_len (fsub S P) (fsub T Q) (over w1 u) (fsub_range _ _).2 (fsub_range _ _).2)
      generalize fsub X P = d1 at *
      generalize fsub Y Q = d2 at *
      generalize fsub X S = d3 at *
      generalize fsub Y T = d4 at *
      generalize fsub S P = d5 at *
      generalize fsub T Q = d6 at *
      generalize vlen d1 d2 = u at *
      generalize vlen d3 d4 = v at *
      generalize vlen d5 d6 = m at *
      replace V1 := Lib.hid V1
      replace V2 := Lib.hid V2
      replace V3 := Lib.hid V3
      replace L1 := Lib.hid L1
      replace L2 := Lib.hid L2
      replace L3 := Lib.hid L3
      have W1 := Lib.hid (fun w' => vec_within X Y P Q z w' (by omega) (by omega) (by omega) (by omega) hz1)
      have W2 := fun w' => vec_within P Q X Y z w' (by omega) (by omega) (by omega) (by omega) hz1
      rw [hsym] at W2
      replace W2 := Lib.hid W2
      generalize vwithin X Y P Q z = B at *
      clear hsym bx by_ bp bq bs bt
      clear hl19 hl20 hl21
      have x0 := hbGA.cell (i := 0) rfl
      have x1 := hbGA.cell (i := 1) rfl
      have hlGA := hbGA.lt
      have y0 := hbGB.cell (i := 0) rfl
      have y1 := hbGB.cell (i := 1) rfl
      have hlGB := hbGB.lt
      have z0 := hbGC.cell (i := 0) rfl
      have z1 := hbGC.cell (i := 1) rfl
      have hlGC := hbGC.lt
      go_wp2_with fail
      refine wp_region_over (by kernel_rfl) (by kernel_rfl) ?_
      repeat (go_big_quiet_step (first | (go_at_call 34; with_reducible (first | exact V1.out _ | exact V2.out _ | exact V3.out _)) | (go_at_call 21; with_reducible (first | exact L1.out _ | exact L2.out _ | exact L3.out _))))
      refine wpQuiet_nil ?_
      rintro wq ⟨xq, rfl⟩
      have hq := over_below w1 xq
      generalize over w1 xq = w2 at *
      clear x0 x1 y0 y1 z0 z1 hlGA hlGB hlGC
      replace hbGA := hbGA.below hq hbGA.lt
      replace hbGB := hbGB.below hq hbGB.lt
      replace hbGC := hbGC.below hq hbGC.lt
      replace hc5 := (hq.cell hb).trans hc5
      replace hb := Nat.lt_of_lt_of_le hb hq.size
      replace hbl := hbl.trans (hq.mono hbl.size)
      clear hq
      clear V1 V2 V3 L1 L2 L3 hbGC
      have dt : decide (v + m + 2 < u) = false := decide_eq_false (by omega)
      go_wp2_with fail
      clear hc5 hb dt
      have HB := Lib.hid hbl
      clear hbl
      have HA := Lib.hid hbGA
      have HBB := Lib.hid hbGB
      clear hbGA hbGB htri
      have K1 := Lib.hid (fun y => calls_over (x := y) (W1.out (over w2 y)))
      have K2 := Lib.hid (fun y => calls_over (x := y) (W2.out (over w2 y)))
      clear W1 W2
      have hcs : (0 < z ∧ u < z) ∨ (0 < z ∧ ¬ u < z) ∨ (¬ 0 < z ∧ B = true) ∨ (¬ 0 < z ∧ B = false) := by
        by_cases h0 : 0 < z
        · by_cases hu : u < z
          · exact .inl ⟨h0, hu⟩
          · exact .inr (.inl ⟨h0, hu⟩)
        · cases B
          · exact .inr (.inr (.inr ⟨h0, rfl⟩))
          · exact .inr (.inr (.inl ⟨h0, rfl⟩))
      rcases hcs with ⟨h0, hu⟩ | ⟨h0, hu⟩ | ⟨h0, rfl⟩ | ⟨h0, rfl⟩
      case' inl =>
        have hB := hwi h0
        have dz : decide (0 < z) = true := decide_eq_true h0
        rw [decide_eq_true hu] at hB
        subst hB
        have du : decide (u < z) = true := decide_eq_true hu
      case' inr.inl =>
        have hB := hwi h0
        have dz : decide (0 < z) = true := decide_eq_true h0
        rw [decide_eq_false hu] at hB
        subst hB
        have du : decide (u < z) = false := decide_eq_false hu
      case' inr.inr.inl => have dz : decide (0 < z) = false := decide_eq_false h0
      case' inr.inr.inr => have dz : decide (0 < z) = false := decide_eq_false h0
      all_goals
        clear hwi
        have x0 := HA.out.cell (i := 0) rfl
        have x1 := HA.out.cell (i := 1) rfl
        have y0 := HBB.out.cell (i := 0) rfl
        have y1 := HBB.out.cell (i := 1) rfl
        have hlA := HA.out.lt
        have hlB := HBB.out.lt
        go_wp2_with fail
        refine wp_region_over (by kernel_rfl) (by kernel_rfl) ?_
        repeat (go_big_quiet_step (first | (go_at_call 31; with_reducible (first | exact K1.out _ | exact K2.out _))))
        refine wpQuiet_nil ?_
        rintro wq ⟨xq, rfl⟩
        have HB2 := Lib.hid (HB.out.trans ((over_below w2 xq).mono HB.out.size))
        generalize over w2 xq = w3 at *
        clear x0 x1 y0 y1 hlA hlB K1 K2 HA HBB HB
        go_wp2_with fail
        go_roundw
        case rel => exact ⟨k + 1, by omega, by omega, by go_num, HB2.out⟩
        case measure => simp [intOf]; omega
end lawVecTriangles
end Go.Proofs.Ytpkdkkbmmkhhhaa
