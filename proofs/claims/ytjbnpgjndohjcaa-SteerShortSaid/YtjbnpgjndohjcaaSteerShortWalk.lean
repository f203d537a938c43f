/- The walk of the law SteerShort. -/
import Derived.Test.YtjbnpgjndohjcaaSteerShortMath
import Derived.Test.YtjbnpgjndohjcaaPush
import Derived.Test.YtjbnpgjndohjcaaBoxes
import Derived.Test.YtjbnpgjndohjcaaBlk
namespace Go.Proofs.Ytjbnpgjndohjcaa
set_option maxRecDepth 20000
open Go.RowKit Go.WideShapes Go.ChangeShapes

theorem small19s (x y : Int) (w : World) (hx0 : -9223372036854775808 ≤ x) (hx : x ≤ 9223372036854775807) (hy0 : -9223372036854775808 ≤ y) (hy : y ≤ 9223372036854775807) :
    Calls Try.prog 34 #[.agg #[.int .i64 x, .int .i64 y]] w fun e w' => e = .returned (.agg #[.int .i64 (x / 32), .int .i64 (y / 32)]) ∧ Below w.heap.size w w' := by
  go_enter Try.func34, Try.ntmps34
  go_wp2
  exact bodyPost_ret (v := .agg #[.int .i64 (x / 32), .int .i64 (y / 32)]) (by simp [results, Try.results34, go_sem]) rfl ⟨rfl, two_below _ _ _⟩

theorem vecs_one19 {x y : Int} (w : World) (hx : -9223372036854775808 ≤ x ∧ x ≤ 9223372036854775807) (hy : -9223372036854775808 ≤ y ∧ y ≤ 9223372036854775807) : VecsL (w.alloc (.cells #[.int .i64 x, .int .i64 y] 35)) (some ⟨w.heap.size, 0, none⟩) 1 [(x, y)] := by
  refine ⟨rfl, fun i hi => ?_⟩
  obtain rfl : i = 0 := by omega
  exact ⟨w.heap.size, 0, rfl, by simp, by rw [World.cell?_alloc_at _ _ _ _ rfl]; rfl, by rw [World.cell?_alloc_at _ _ _ _ rfl]; rfl, hx, hy⟩
theorem box_cell3 {W w' : World} {C B : Nat} {cs : Array Value} {t : TypeId} (h : Blk W C cs t) (hb : Below B W w') (hB : C < B) (i : Nat) (v : Value) (hv : cs[i]? = some v) : w'.cell? ⟨C, i, none⟩ = some v := (h.below hb hB).cell hv

namespace lawSteerShort
set_option maxHeartbeats 6400000 in
set_option maxRecDepth 100000 in
theorem walk {H : Type} {enc : TypeId × Value → H} (w : World) {base : Nat} (v : Value) (d : DataW H) (p : List MemPlace) (hv : Value.okWide Try.prog w .any base 44 v)
    (ht : DataW.Trod enc Try.prog w 0 (fun _ => true) true 44 v d p) : Calls Try.prog 10 #[v] w fun e w' => e = .returned (.bool true) ∧ Below w.heap.size w w' := by
  obtain ⟨A, n, c, rfl, hnc, hcm, ha⟩ := open_asks19 hv ht
  unfold maxLen at hcm
  clear hv ht
  go_enter Try.func10, Try.ntmps10
  go_wp2_with fail
  go_loopw [3] (fun i wr => ∃ (k : Nat), k ≤ n ∧ k ≤ 20 ∧ i = .int .i64 k ∧ Below w.heap.size w wr) (fun i _ => n - (intOf i).toNat)
  case atStart => exact ⟨0, Nat.zero_le _, by omega, rfl, Below.refl _ _⟩
  case round =>
    obtain ⟨k, hk, hk20, rfl, hbl⟩ := hrel
    by_cases hlt : k < n
    · by_cases h20 : k < 20
      · skip
        obtain ⟨b, o, x, y, p, q, z, A1, m1, c1, l1, rfl, hb, hc1, hc2, hc3, hc4, hc5, hc6, ⟨hx0, hx1⟩, ⟨hy0, hy1⟩, ⟨hp0, hp1⟩, ⟨hq0, hq1⟩, ⟨hz0, hz1⟩, hv1, hmc, hcm1⟩ := ha.below hbl k hlt
        clear ha hv1 hmc hcm1 hc6
        have S := Lib.hid (fun W => small19s x y W hx0 hx1 hy0 hy1)
        have S2 := Lib.hid (fun W => small19s p q W hp0 hp1 hq0 hq1)
        have bx : -288230376151711744 ≤ x / 32 ∧ x / 32 ≤ 288230376151711744 := by omega
        have by_ : -288230376151711744 ≤ y / 32 ∧ y / 32 ≤ 288230376151711744 := by omega
        have bp : -288230376151711744 ≤ p / 32 ∧ p / 32 ≤ 288230376151711744 := by omega
        have bq : -288230376151711744 ≤ q / 32 ∧ q / 32 ≤ 288230376151711744 := by omega
        generalize x / 32 = X at *
        generalize y / 32 = Y at *
        generalize p / 32 = P at *
        generalize q / 32 = Q at *
        have hK0 : 0 ≤ max z 0 := by omega
        have hK1 : max z 0 ≤ 9223372036854775807 := by omega
        go_wp2_with fail
        refine' wp_region_boxes (T := 35) (e := 3) (by decide) [.val _, .val _, .val _, .val _, .val _, .val _, .val _, .val _, .val _, .val _, .val _, .val _, .val _, .val _, .val _, .val _, .val _, .val _, .box #[.int .i64 0, .int .i64 0], .box #[.int .i64 0, .int .i64 0], .put 18 (fun X9 w9 => w9.heap[X9]? = some (.cells #[.int .i64 X, .int .i64 Y] 35 (0, 0))) (fun X9 w9 w8 h hk hx => hx.trans h), .put 19 (fun X9 w9 => w9.heap[X9]? = some (.cells #[.int .i64 P, .int .i64 Q] 35 (0, 0))) (fun X9 w9 w8 h hk hx => hx.trans h), .val _] (A := _) ?hAa (by kernel_rfl) (by kernel_rfl) (by rfl) ?hxa ?stepsa ?henda
        case hAa =>
          intro uf X9 hX9
          simp only [fillK, Act.put, List.setIfInBounds_toArray, List.set_cons_zero, List.set_cons_succ, Nat.reduceAdd]
          (try go_simp)
          exact hX9
        case stepsa =>
          refine ⟨fun uf W HB hd => ?_, ?_⟩
          · clear hd
            intro K hK
            go_simp
            refine hK _ _ (Below.refl _ _) ?_
            (show _ = _); rfl
          refine ⟨fun uf W HB hd => ?_, ?_⟩
          · clear hd
            intro K hK
            go_simp
            refine hK _ _ (Below.refl _ _) ?_
            (show _ = _); rfl
          refine ⟨fun uf W HB hd => ?_, ?_⟩
          · clear hd
            intro K hK
            go_simp
            refine hK _ _ (Below.refl _ _) ?_
            (show _ = _); rfl
          refine ⟨fun uf W HB hd => ?_, ?_⟩
          · clear hd
            intro K hK
            go_simp
            refine hK _ _ (Below.refl _ _) ?_
            (show _ = _); rfl
          refine ⟨fun uf W HB hd => ?_, ?_⟩
          · clear hd
            have q1 := (HB.cell hb).trans hc1
            have q2 := (HB.cell hb).trans hc2
            intro K hK
            go_simp
            refine hK _ _ (Below.refl _ _) ?_
            (show _ = _); rfl
          refine ⟨fun uf W HB hd => ?_, ?_⟩
          · clear hd
            intro K hK
            go_simp
            (with_reducible refine Calls.mono (S.out W) ?_)
            rintro e wn ⟨rfl, hbn⟩
            refine hK _ _ hbn ?_
            (show _ = _); rfl
          refine ⟨fun uf W HB hd => ?_, ?_⟩
          · clear hd
            intro K hK
            go_simp
            refine hK _ _ (Below.refl _ _) ?_
            (show _ = _); rfl
          refine ⟨fun uf W HB hd => ?_, ?_⟩
          · clear hd
            intro K hK
            go_simp
            refine hK _ _ (Below.refl _ _) ?_
            (show _ = _); rfl
          refine ⟨fun uf W HB hd => ?_, ?_⟩
          · clear hd
            intro K hK
            go_simp
            refine hK _ _ (Below.refl _ _) ?_
            (show _ = _); rfl
          refine ⟨fun uf W HB hd => ?_, ?_⟩
          · clear hd
            intro K hK
            go_simp
            refine hK _ _ (Below.refl _ _) ?_
            (show _ = _); rfl
          refine ⟨fun uf W HB hd => ?_, ?_⟩
          · clear hd
            have q3 := (HB.cell hb).trans hc3
            have q4 := (HB.cell hb).trans hc4
            intro K hK
            go_simp
            refine hK _ _ (Below.refl _ _) ?_
            (show _ = _); rfl
          refine ⟨fun uf W HB hd => ?_, ?_⟩
          · clear hd
            intro K hK
            go_simp
            (with_reducible refine Calls.mono (S2.out W) ?_)
            rintro e wn ⟨rfl, hbn⟩
            refine hK _ _ hbn ?_
            (show _ = _); rfl
          refine ⟨fun uf W HB hd => ?_, ?_⟩
          · clear hd
            intro K hK
            go_simp
            refine hK _ _ (Below.refl _ _) ?_
            (show _ = _); rfl
          refine ⟨fun uf W HB hd => ?_, ?_⟩
          · clear hd
            intro K hK
            go_simp
            refine hK _ _ (Below.refl _ _) ?_
            (show _ = _); rfl
          refine ⟨fun uf W HB hd => ?_, ?_⟩
          · clear hd
            intro K hK
            go_simp
            refine hK _ _ (Below.refl _ _) ?_
            (show _ = _); rfl
          refine ⟨fun uf W HB hd => ?_, ?_⟩
          · clear hd
            intro K hK
            go_simp
            refine hK _ _ (Below.refl _ _) ?_
            (show _ = _); rfl
          refine ⟨fun uf W HB hd => ?_, ?_⟩
          · clear hd
            have q5 := (HB.cell hb).trans hc5
            intro K hK
            go_simp
            refine hK _ _ (Below.refl _ _) ?_
            (show _ = _); rfl
          refine ⟨fun uf W HB hd => ?_, ?_⟩
          · clear hd
            intro K hK
            go_simp
            refine hK _ _ (Below.refl _ _) ?_
            (show _ = _); rfl
          refine ⟨fun uf W HB hd => ?_, ?_⟩
          · clear hd
            intro K hK
            go_simp
            exact hK _ _ rfl rfl
          refine ⟨fun uf W HB hd => ?_, ?_⟩
          · clear hd
            intro K hK
            go_simp
            exact hK _ _ rfl rfl
          refine ⟨fun uf W HB hd => ?_, ?_⟩
          · have h18 := hd 18 (by decide); clear hd
            intro X9 hX9 hBX hz9 K hK
            have hC : Blk W X9 #[.int .i64 0, .int .i64 0] 35 := hz9
            have x0 := hC.cell (i := 0) rfl
            have x1 := hC.cell (i := 1) rfl
            have f0 := hC.free 0
            have f1 := hC.free 1
            have hC2 : Blk ((W.setCell ⟨X9, 0, none⟩ (.int .i64 X)).setCell ⟨X9, 1, none⟩ (.int .i64 Y)) X9 #[.int .i64 X, .int .i64 Y] 35 := (hC.set 0 _).set 1 _
            simp only [hX9, boxPtr] at hK ⊢
            go_simp
            exact hK undef _ (((Below.refl X9 W).setCell (Nat.le_refl _) _).setCell (Nat.le_refl _) _) (fun j hj => (Below.heap_setCell _ _ _ _ hj).trans (Below.heap_setCell _ _ _ _ hj)) ⟨_, hC2⟩ hC2
          refine ⟨fun uf W HB hd => ?_, ?_⟩
          · have h19 := hd 19 (by decide); clear hd
            intro X9 hX9 hBX hz9 K hK
            have hC : Blk W X9 #[.int .i64 0, .int .i64 0] 35 := hz9
            have x0 := hC.cell (i := 0) rfl
            have x1 := hC.cell (i := 1) rfl
            have f0 := hC.free 0
            have f1 := hC.free 1
            have hC2 : Blk ((W.setCell ⟨X9, 0, none⟩ (.int .i64 P)).setCell ⟨X9, 1, none⟩ (.int .i64 Q)) X9 #[.int .i64 P, .int .i64 Q] 35 := (hC.set 0 _).set 1 _
            simp only [hX9, boxPtr] at hK ⊢
            go_simp
            exact hK undef _ (((Below.refl X9 W).setCell (Nat.le_refl _) _).setCell (Nat.le_refl _) _) (fun j hj => (Below.heap_setCell _ _ _ _ hj).trans (Below.heap_setCell _ _ _ _ hj)) ⟨_, hC2⟩ hC2
          refine ⟨fun uf W HB hd => ?_, ?_⟩
          · clear hd
            intro K hK
            go_simp
            refine hK _ _ (Below.refl _ _) ?_
            (show _ = _); rfl
          trivial
        case hxa => kernel_rfl
        case henda =>
          intro uf w1 HB hd
          have h20 := hd 20 (by decide)
          have h21 := hd 21 (by decide)
          clear hd
          obtain ⟨GP, e18, hB1, hl1, hP⟩ : ∃ X9, uf 18 = boxPtr X9 ∧ wr.heap.size ≤ X9 ∧ X9 < w1.heap.size ∧ w1.heap[X9]? = some (.cells #[.int .i64 X, .int .i64 Y] 35 (0, 0)) := h20
          obtain ⟨GQ, e19, hB2, hl2, hQ⟩ : ∃ X9, uf 19 = boxPtr X9 ∧ wr.heap.size ≤ X9 ∧ X9 < w1.heap.size ∧ w1.heap[X9]? = some (.cells #[.int .i64 P, .int .i64 Q] 35 (0, 0)) := h21
          simp only [e18, e19, boxPtr]
          clear e18 e19
          replace hP : Blk w1 GP #[.int .i64 X, .int .i64 Y] 35 := hP
          replace hQ : Blk w1 GQ #[.int .i64 P, .int .i64 Q] 35 := hQ
          replace hbl := hbl.trans (HB.mono hbl.size)
          clear HB hB1 hB2 hl1 hl2 hc1 hc2 hc3 hc4 hc5 hb S S2
          generalize max z 0 = M at *
          obtain ⟨F1, F2, F3, F4, F5, F6, F7, F8⟩ := short_all (k := M) bx.1 bx.2 by_.1 by_.2 bp.1 bp.2 bq.1 bq.2 hK0
          have RT := towV_range (x := X) (y := Y) (p := P) (q := Q) hK1
          have C1 := Lib.hid (steer_toward X Y P Q M w1 (by omega) (by omega) (by omega) (by omega) hK1)
          have x0 := hP.cell (i := 0) rfl
          have x1 := hP.cell (i := 1) rfl
          have y0 := hQ.cell (i := 0) rfl
          have y1 := hQ.cell (i := 1) rfl
          go_wp2_with fail
          refine Calls.mono C1.out ?_
          rintro e w2 ⟨rfl, hb2⟩
          clear C1 x0 x1 y0 y1
          replace hP := hP.below hb2 hP.lt
          replace hQ := hQ.below hb2 hQ.lt
          replace hbl := hbl.trans (hb2.mono hbl.size)
          clear hb2
          have hT := Blk.new w2 #[.int .i64 (towV X Y P Q M).1, .int .i64 (towV X Y P Q M).2] 35
          have hbx : Below w2.heap.size w2 (w2.alloc (.cells #[.int .i64 (towV X Y P Q M).1, .int .i64 (towV X Y P Q M).2] 35)) := (Below.refl _ _).alloc (Nat.le_refl _) _
          replace hP := hP.below hbx hP.lt
          replace hQ := hQ.below hbx hQ.lt
          replace hbl := hbl.trans (hbx.mono hbl.size)
          clear hbx
          have C2 := ref_len (towV X Y P Q M).1 (towV X Y P Q M).2 (w2.alloc (.cells #[.int .i64 (towV X Y P Q M).1, .int .i64 (towV X Y P Q M).2] 35)) RT.1 RT.2
          generalize hTe : towV X Y P Q M = T at *
          obtain ⟨T1, T2⟩ := T
          simp only at hT C2 F1 hP hQ RT hbl
          replace C2 := Lib.hid C2
          go_wp2_with fail
          generalize w2.alloc (.cells #[.int .i64 T1, .int .i64 T2] 35) = w3 at *
          generalize w2.heap.size = GT at *
          refine Calls.mono C2.out ?_
          rintro e w4 ⟨rfl, hb4⟩
          clear C2
          replace hP := hP.below hb4 hP.lt
          replace hQ := hQ.below hb4 hQ.lt
          replace hT := hT.below hb4 hT.lt
          replace hbl := hbl.trans (hb4.mono hbl.size)
          clear hb4
          have d1 : decide (M < vlen T1 T2) = false := by simp; omega
          have C3 := Lib.hid (ref_vsub P Q X Y w4 (by omega) (by omega) (by omega) (by omega))
          have x0 := hP.cell (i := 0) rfl
          have x1 := hP.cell (i := 1) rfl
          have y0 := hQ.cell (i := 0) rfl
          have y1 := hQ.cell (i := 1) rfl
          go_wp2_with fail
          refine Calls.mono C3.out ?_
          rintro e w5 ⟨rfl, hb5⟩
          clear C3 x0 x1 y0 y1 d1 F1
          replace hP := hP.below hb5 hP.lt
          replace hQ := hQ.below hb5 hQ.lt
          replace hT := hT.below hb5 hT.lt
          replace hbl := hbl.trans (hb5.mono hbl.size)
          clear hb5
          have RD1 := (fsub_range P X)
          have RD2 := (fsub_range Q Y)
          generalize fsub P X = D1 at *
          generalize fsub Q Y = D2 at *
          have hD := Blk.new w5 #[.int .i64 D1, .int .i64 D2] 35
          have hbx : Below w5.heap.size w5 (w5.alloc (.cells #[.int .i64 D1, .int .i64 D2] 35)) := (Below.refl _ _).alloc (Nat.le_refl _) _
          replace hP := hP.below hbx hP.lt
          replace hQ := hQ.below hbx hQ.lt
          replace hT := hT.below hbx hT.lt
          replace hbl := hbl.trans (hbx.mono hbl.size)
          clear hbx
          go_wp2_with fail
          generalize w5.alloc (.cells #[.int .i64 D1, .int .i64 D2] 35) = w6 at *
          generalize w5.heap.size = GD at *
          have C4 := Lib.hid (ref_len D1 D2 w6 RD1.2 RD2.2)
          refine Calls.mono C4.out ?_
          rintro e w7 ⟨rfl, hb7⟩
          clear C4
          replace hP := hP.below hb7 hP.lt
          replace hQ := hQ.below hb7 hQ.lt
          replace hT := hT.below hb7 hT.lt
          replace hD := hD.below hb7 hD.lt
          replace hbl := hbl.trans (hb7.mono hbl.size)
          clear hb7
          have x0 := hT.cell (i := 0) rfl
          have x1 := hT.cell (i := 1) rfl
          have y0 := hD.cell (i := 0) rfl
          have y1 := hD.cell (i := 1) rfl
          by_cases hle : vlen D1 D2 ≤ M
          case' pos =>
            have hTD := F2 hle
            injection hTD with e1 e2
            subst e1 e2
            have d2 : decide (vlen T1 T2 ≤ M) = true := by simpa using hle
          case' neg =>
            have d2 : decide (vlen D1 D2 ≤ M) = false := by simpa using hle
          all_goals
            go_wp2_with fail
            clear x0 x1 y0 y1 d2 hD RD1 RD2 F2
            have HP := Lib.hid hP
            have HQ := Lib.hid hQ
            have HT := Lib.hid hT
            have N0 : ∀ W, VecsL W none 0 [] := fun W => ⟨rfl, fun i hi => absurd hi (by omega)⟩
            have C2 : Hid (∀ W, Calls Try.prog 31 #[.agg #[.int .i64 X, .int .i64 Y], .int .i64 M, .slice none 0 0] W fun e w' => e = .returned (.agg #[.int .i64 0, .int .i64 0]) ∧ Below W.heap.size W w') := fun W => steer_apart X Y M none 0 0 [] W (N0 W) (by omega) (by omega) hK1 (by omega)
            have C8 : Hid (∀ W, Calls Try.prog 28 #[.agg #[.int .i64 X, .int .i64 Y], .slice none 0 0, .int .i64 M] W fun e w' => e = .returned (.agg #[.int .i64 0, .int .i64 0]) ∧ Below W.heap.size W w') := fun W => by
              have := steer_cohere X Y M none 0 0 [] W (N0 W) (by omega) (by omega) hK1 (by omega)
              rw [show cohV X Y [] ((0 : Nat) : Int) M = (0, 0) from rfl] at this
              exact this
            have C17 : Hid (∀ (g : Nat) W, VecsL W (some ⟨g, 0, none⟩) 1 [(P, Q)] → Calls Try.prog 28 #[.agg #[.int .i64 X, .int .i64 Y], .slice (some ⟨g, 0, none⟩) 1 1, .int .i64 M] W fun e w' => e = .returned (.agg #[.int .i64 T1, .int .i64 T2]) ∧ Below W.heap.size W w') := fun g W h => by
              have := steer_cohere X Y M (some ⟨g, 0, none⟩) 1 1 [(P, Q)] W h (by omega) (by omega) hK1 (by omega)
              rw [show ((1 : Nat) : Int) = 1 from rfl, F3] at this
              exact this
            clear hP hQ hT N0
            refine' wp_region_grow [Fact.val _, Fact.val _, Fact.val _, Fact.val _, Fact.val _, Fact.val _, Fact.val _, Fact.val _, Fact.val _, Fact.val _, Fact.val _, Fact.val _, Fact.val _, Fact.val _, Fact.val _, Fact.pred (fun v w' => ∃ g : Nat, v = .slice (some ⟨g, 0, none⟩) 1 1 ∧ VecsL w' (some ⟨g, 0, none⟩) 1 [(P, Q)]) (fun v w w' h hb => by obtain ⟨g, h1, h2⟩ := h; exact ⟨g, h1, h2.below hb⟩), Fact.val _, Fact.val _, Fact.val _, Fact.val _, Fact.val _] (A := _) ?hAb (by kernel_rfl) (by kernel_rfl) ?stepsb ?hendb
            case hAb =>
              intro us X9 hX9
              simp only [fillF, Act.put, List.setIfInBounds_toArray, List.set_cons_zero, List.set_cons_succ, Nat.reduceAdd]
              (try go_simp)
              exact hX9
            case stepsb =>
              refine ⟨fun us W HB hd K hK => ?_, ?_⟩
              · clear hd
                have x0 := box_cell3 HP.out HB HP.out.lt 0 _ rfl
                have x1 := box_cell3 HP.out HB HP.out.lt 1 _ rfl
                go_simp
                refine hK _ _ (Below.refl _ _) ?_
                (show _ = _); rfl
              refine ⟨fun us W HB hd K hK => ?_, ?_⟩
              · clear hd
                go_simp
                refine hK _ _ (Below.refl _ _) ?_
                (show _ = _); rfl
              refine ⟨fun us W HB hd K hK => ?_, ?_⟩
              · clear hd
                go_simp
                (with_reducible refine Calls.mono (C2.out W) ?_)
                rintro e wn ⟨rfl, hbn⟩
                refine hK _ _ hbn ?_
                (show _ = _); rfl
              refine ⟨fun us W HB hd K hK => ?_, ?_⟩
              · clear hd
                go_simp
                refine hK _ _ (Below.refl _ _) ?_
                (show _ = _); rfl
              refine ⟨fun us W HB hd K hK => ?_, ?_⟩
              · clear hd
                go_simp
                refine hK _ _ (Below.refl _ _) ?_
                (show _ = _); rfl
              refine ⟨fun us W HB hd K hK => ?_, ?_⟩
              · clear hd
                go_simp
                refine hK _ _ (Below.refl _ _) ?_
                (show _ = _); rfl
              refine ⟨fun us W HB hd K hK => ?_, ?_⟩
              · clear hd
                have x0 := box_cell3 HP.out HB HP.out.lt 0 _ rfl
                have x1 := box_cell3 HP.out HB HP.out.lt 1 _ rfl
                go_simp
                refine hK _ _ (Below.refl _ _) ?_
                (show _ = _); rfl
              refine ⟨fun us W HB hd K hK => ?_, ?_⟩
              · clear hd
                go_simp
                refine hK _ _ (Below.refl _ _) ?_
                (show _ = _); rfl
              refine ⟨fun us W HB hd K hK => ?_, ?_⟩
              · clear hd
                go_simp
                (with_reducible refine Calls.mono (C8.out W) ?_)
                rintro e wn ⟨rfl, hbn⟩
                refine hK _ _ hbn ?_
                (show _ = _); rfl
              refine ⟨fun us W HB hd K hK => ?_, ?_⟩
              · clear hd
                go_simp
                refine hK _ _ (Below.refl _ _) ?_
                (show _ = _); rfl
              refine ⟨fun us W HB hd K hK => ?_, ?_⟩
              · clear hd
                go_simp
                refine hK _ _ (Below.refl _ _) ?_
                (show _ = _); rfl
              refine ⟨fun us W HB hd K hK => ?_, ?_⟩
              · clear hd
                go_simp
                refine hK _ _ (Below.refl _ _) ?_
                (show _ = _); rfl
              refine ⟨fun us W HB hd K hK => ?_, ?_⟩
              · clear hd
                go_simp
                refine hK _ _ (Below.refl _ _) ?_
                (show _ = _); rfl
              refine ⟨fun us W HB hd K hK => ?_, ?_⟩
              · clear hd
                have x0 := box_cell3 HP.out HB HP.out.lt 0 _ rfl
                have x1 := box_cell3 HP.out HB HP.out.lt 1 _ rfl
                go_simp
                refine hK _ _ (Below.refl _ _) ?_
                (show _ = _); rfl
              refine ⟨fun us W HB hd K hK => ?_, ?_⟩
              · clear hd
                have y0 := box_cell3 HQ.out HB HQ.out.lt 0 _ rfl
                have y1 := box_cell3 HQ.out HB HQ.out.lt 1 _ rfl
                go_simp
                refine hK _ _ (Below.refl _ _) ?_
                (show _ = _); rfl
              refine ⟨fun us W HB hd K hK => ?_, ?_⟩
              · clear hd
                go_simp
                exact hK _ _ ((Below.refl _ _).alloc (Nat.le_refl _) _) ⟨_, rfl, vecs_one19 W (by omega) (by omega)⟩
              refine ⟨fun us W HB hd K hK => ?_, ?_⟩
              · clear hd
                go_simp
                refine hK _ _ (Below.refl _ _) ?_
                (show _ = _); rfl
              refine ⟨fun us W HB hd K hK => ?_, ?_⟩
              · have h15 := hd 15 (by decide); clear hd
                obtain ⟨g9, e15, hv9⟩ : ∃ g, us 15 = _ ∧ _ := h15
                simp only [e15] at hK ⊢
                have C := C17.out g9 W hv9
                go_simp
                (with_reducible refine Calls.mono C ?_)
                rintro e wn ⟨rfl, hbn⟩
                refine hK _ _ hbn ?_
                (show _ = _); rfl
              refine ⟨fun us W HB hd K hK => ?_, ?_⟩
              · clear hd
                have z0 := box_cell3 HT.out HB HT.out.lt 0 _ rfl
                have z1 := box_cell3 HT.out HB HT.out.lt 1 _ rfl
                go_simp
                refine hK _ _ (Below.refl _ _) ?_
                (show _ = _); rfl
              refine ⟨fun us W HB hd K hK => ?_, ?_⟩
              · clear hd
                go_simp
                refine hK _ _ (Below.refl _ _) ?_
                (show _ = _); rfl
              refine ⟨fun us W HB hd K hK => ?_, ?_⟩
              · clear hd
                go_simp
                refine hK _ _ (Below.refl _ _) ?_
                (show _ = _); rfl
              trivial
            case hendb =>
              intro us w8 HB hd
              clear hd
              have hP := HP.out.below HB HP.out.lt
              have hQ := HQ.out.below HB HQ.out.lt
              replace hbl := hbl.trans (HB.mono hbl.size)
              generalize us 15 = u15
              clear HB HP HQ HT C2 C8 C17 F3
              have hb9 : Below w8.heap.size w8 (w8.alloc (.cells #[.int .i64 P, .int .i64 Q] 35)) := (Below.refl _ _).alloc (Nat.le_refl _) _
              have C3 := Lib.hid (steer_apart X Y M (some ⟨w8.heap.size, 0, none⟩) 1 1 [(P, Q)] (w8.alloc (.cells #[.int .i64 P, .int .i64 Q] 35)) (vecs_one19 w8 (by omega) (by omega)) (by omega) (by omega) hK1 (by omega))
              have x0 := hP.cell (i := 0) rfl
              have x1 := hP.cell (i := 1) rfl
              have y0 := hQ.cell (i := 0) rfl
              have y1 := hQ.cell (i := 1) rfl
              go_wp2_with fail
              replace hP := hP.below hb9 hP.lt
              replace hQ := hQ.below hb9 hQ.lt
              replace hbl := hbl.trans (hb9.mono hbl.size)
              clear hb9
              generalize w8.alloc (.cells #[.int .i64 P, .int .i64 Q] 35) = w9 at *
              refine Calls.mono C3.out ?_
              rintro e w10 ⟨rfl, hb10⟩
              clear C3 x0 x1 y0 y1
              replace hP := hP.below hb10 hP.lt
              replace hQ := hQ.below hb10 hQ.lt
              replace hbl := hbl.trans (hb10.mono hbl.size)
              clear hb10
              generalize apV X Y M [(P, Q)] = a at *
              obtain ⟨a1, a2⟩ := a
              simp only at F4 F5 F6 F7 F8
              have hA := Blk.new w10 #[.int .i64 a1, .int .i64 a2] 35
              have hbx : Below w10.heap.size w10 (w10.alloc (.cells #[.int .i64 a1, .int .i64 a2] 35)) := (Below.refl _ _).alloc (Nat.le_refl _) _
              replace hP := hP.below hbx hP.lt
              replace hQ := hQ.below hbx hQ.lt
              replace hbl := hbl.trans (hbx.mono hbl.size)
              clear hbx
              have C4 := Lib.hid (fun W => ref_within X Y P Q M W (by omega) (by omega) (by omega) (by omega) hK1)
              have x0 := hP.cell (i := 0) rfl
              have x1 := hP.cell (i := 1) rfl
              have y0 := hQ.cell (i := 0) rfl
              have y1 := hQ.cell (i := 1) rfl
              go_wp2_with fail
              generalize w10.alloc (.cells #[.int .i64 a1, .int .i64 a2] 35) = w11 at *
              generalize w10.heap.size = GA at *
              refine Calls.mono (C4.out _) ?_
              rintro e w12 ⟨rfl, hb12⟩
              clear C4 x0 x1 y0 y1
              replace hP := hP.below hb12 hP.lt
              replace hQ := hQ.below hb12 hQ.lt
              replace hA := hA.below hb12 hA.lt
              replace hbl := hbl.trans (hb12.mono hbl.size)
              clear hb12
              have x0 := hP.cell (i := 0) rfl
              have x1 := hP.cell (i := 1) rfl
              have y0 := hQ.cell (i := 0) rfl
              have y1 := hQ.cell (i := 1) rfl
              have z0 := hA.cell (i := 0) rfl
              have z1 := hA.cell (i := 1) rfl
              have HBF := Lib.hid hbl
              clear hbl hP hQ hA
              cases hw : vwithin X Y P Q M with
              | false =>
                obtain ⟨rfl, rfl⟩ : a1 = 0 ∧ a2 = 0 := by have := F4 hw; injection this with h1 h2; exact ⟨h1, h2⟩
                go_wp2_with fail
                go_roundw
                case rel => exact ⟨k + 1, by omega, by omega, by go_num, HBF.out⟩
                case measure => simp [intOf]; omega
              | true =>
                rcases Int.lt_trichotomy a1 0 with h1 | rfl | h1
                all_goals
                  rcases Int.lt_trichotomy a2 0 with h2 | rfl | h2
                  all_goals
                    (try have := F5 h1)
                    (try have := F6 h1)
                    (try have := F7 h2)
                    (try have := F8 h2)
                    clear F4 F5 F6 F7 F8 hw
                    go_wp2_with fail
                    go_roundw
                    case rel => exact ⟨k + 1, by omega, by omega, by go_num, HBF.out⟩
                    case measure => simp [intOf]; omega
      · go_wp2_with fail
        refine Calls.mono (wakes19 _) ?_
        rintro e w3 ⟨rfl, hb3⟩
        go_wp2_with fail
        go_ret
        exact ⟨rfl, hbl.trans (hb3.mono hbl.size)⟩
    · go_wp2_with fail
      refine Calls.mono (wakes19 _) ?_
      rintro e w3 ⟨rfl, hb3⟩
      go_wp2_with fail
      go_ret
      exact ⟨rfl, hbl.trans (hb3.mono hbl.size)⟩
end lawSteerShort
end Go.Proofs.Ytjbnpgjndohjcaa
