/- The walk of the laws on one kind of commands. -/
import Derived.Test.YtneigplmgellcaaCmdKindMath
namespace Go.Proofs.Ytneigplmgellcaa
set_option maxRecDepth 20000
open Go.RowKit

theorem slice_alloc (w : World) (o : Obj) : Value.slice (some ⟨w.heap.size + 1, 0, none⟩) 1 1 = Value.slice (some ⟨(w.alloc o).heap.size, 0, none⟩) 1 1 := by simp

theorem own_under {w w' : World} {base B : Nat} {e : TypeId} {size n : Nat} {v : Value} {xs : List Value} (h : w.ownsRow base e size v n xs) (hlt : ∀ g, v.ownBlock = some g → g < B) (hb : Below B w w') : w'.ownsRow base e size v n xs := by
  refine ⟨h.1, ?_⟩
  rcases h.2 with hn | ⟨g, cap, cur, hv, hg, hh, r⟩
  · exact .inl hn
  · exact .inr ⟨g, cap, cur, hv, hg, by rw [hb.block g (hlt g (by rw [hv]; rfl))]; exact hh, r⟩
theorem own_set {w : World} {base B : Nat} {e : TypeId} {size n : Nat} {v : Value} {xs : List Value} (h : w.ownsRow base e size v n xs) (hlt : ∀ g, v.ownBlock = some g → g < B) {a : Addr} (ha : B ≤ a.block) (u : Value) : (w.setCell a u).ownsRow base e size v n xs :=
  own_under h hlt ((Below.refl B w).setCell ha u)
/-- A store into a block of another type leaves a row's reading. -/
theorem Reads.blkset {w : World} {base n c : Nat} {e t : TypeId} {A : Option Addr} {k : IntKind} {l : List Int} {B b : Nat} {cs : Array Value} (_h : Reads w B 1 A n (nums k l)) (hb : Blk w b cs t) (i : Nat) (u : Value) (ht : t ≠ e) (hown : w.ownsRow base e 1 (.slice A n c) n (nums k l)) :
    Reads (w.setCell ⟨b, i, none⟩ u) (w.setCell ⟨b, i, none⟩ u).heap.size 1 A n (nums k l) := by
  have : (w.setCell ⟨b, i, none⟩ u).ownsRow base e 1 (.slice A n c) n (nums k l) := by
    refine ownsRow_setCell_other hown ?_ u
    intro hv
    rcases hown.2 with ⟨h1, _⟩ | ⟨g, cap, cur, h1, _, hh, _⟩
    · rw [h1] at hv; cases hv
    · rw [h1] at hv
      simp only [Value.ownBlock, Option.some.injEq] at hv
      subst hv
      unfold Blk at hb
      rw [hh] at hb
      simp only [Option.some.injEq, Obj.cells.injEq] at hb
      exact ht hb.2.1.symm
  exact Reads.of_own this

set_option maxHeartbeats 12800000 in
set_option maxRecDepth 100000 in
theorem kind_walk (K : Int) (A : Option Addr) (n c : Nat) (w : World) (_hnc : n ≤ c) (_hcm : (c : Int) ≤ 9223372036854775807) (ha : Asks22 w A n) :
    Calls Try.prog 27 #[.slice A n c, .int .i64 K] w fun e w' => e = .returned (.bool true) ∧ Below w.heap.size w w' := by
  obtain ⟨i0, hi0, hz0, hz1, hz2⟩ := info_parts info_int
  go_enter Try.func27, Try.ntmps27
  go_wp2_with fail
  go_loopw [5] (fun i wr => ∃ (k : Nat), k ≤ n ∧ k ≤ 10 ∧ i = .int .i64 k ∧ Below w.heap.size w wr) (fun i _ => n - (intOf i).toNat)
  case atStart => exact ⟨0, Nat.zero_le _, by omega, rfl, Below.refl _ _⟩
  case round =>
    obtain ⟨k, hk, hk10, rfl, hbl⟩ := hrel
    obtain ⟨wo, rfl⟩ : ∃ wo : World, wo = wr := ⟨_, rfl⟩
    by_cases hlt : k < n
    · by_cases h10 : k < 10
      · skip
        obtain ⟨b, o, ⟨pl, sq, kd, nn, us, ti, wd, ht, ax, ay⟩, A1, m1, c1, A2, m2, c2, l2, rfl, hb, k0, k1, k2, k3, k4, k5, k6, k7, k8, k9, k10, hr1, hr2, hl2, hmc2, hcm2, hA2⟩ := ha.below hbl k hlt
        simp only at hr1 k0 k1 k2 k3 k4 k5 k6 k7 k8 k9 k10
        clear ha hr2
        have hP := Blk.new wo #[.int .i64 pl, .int .i64 sq, .int .i64 kd, .int .i64 nn, .slice A1 m1 c1, .int .i64 ti, .int .i64 wd, .int .i64 ht, .int .i64 ax, .int .i64 ay, .slice A2 m2 c2] 31
        have hbP : Below wo.heap.size wo (wo.alloc (.cells #[.int .i64 pl, .int .i64 sq, .int .i64 kd, .int .i64 nn, .slice A1 m1 c1, .int .i64 ti, .int .i64 wd, .int .i64 ht, .int .i64 ax, .int .i64 ay, .slice A2 m2 c2] 31)) := (Below.refl _ _).alloc (Nat.le_refl _) _
        replace hr1 := (hr1.below hbP).more hbP.size
        replace hbl := hbl.trans (hbP.mono hbl.size)
        go_wp2_with fail
        generalize wo.alloc (.cells #[.int .i64 pl, .int .i64 sq, .int .i64 kd, .int .i64 nn, .slice A1 m1 c1, .int .i64 ti, .int .i64 wd, .int .i64 ht, .int .i64 ax, .int .i64 ay, .slice A2 m2 c2] 31) = w0 at *
        generalize wo.heap.size = Pb at *
        clear k0 k1 k2 k3 k4 k5 k6 k7 k8 k9 k10 hb hbP
        by_cases hh : m1 ≤ 300 ∧ m2 ≤ 3000
        case neg =>
          refine Calls.mono (heavy22_yes pl sq kd nn ti wd ht ax ay A1 A2 m1 c1 m2 c2 _ (by omega)) ?_
          rintro e w1 ⟨rfl, hb1⟩
          have HB := Lib.hid (hbl.trans (hb1.mono hbl.size))
          clear hbl hb1 hP hr1
          go_wp2_with fail
          go_ret
          exact ⟨rfl, HB.out⟩
        obtain ⟨hm1, hm2⟩ := hh
        refine Calls.mono (heavy22_no pl sq kd nn ti wd ht ax ay A1 A2 m1 c1 m2 c2 _ hm1 hm2) ?_
        rintro e w1 ⟨rfl, hb1⟩
        replace hr1 := (hr1.below hb1).more hb1.size
        replace hP := hP.below hb1 hP.lt
        replace hbl := hbl.trans (hb1.mono hbl.size)
        clear hb1
        have x0 := hP.cell (i := 0) rfl
        have x1 := hP.cell (i := 1) rfl
        have x2 := hP.cell (i := 2) rfl
        have x3 := hP.cell (i := 3) rfl
        have x4 := hP.cell (i := 4) rfl
        have x5 := hP.cell (i := 5) rfl
        have x6 := hP.cell (i := 6) rfl
        have x7 := hP.cell (i := 7) rfl
        have x8 := hP.cell (i := 8) rfl
        have x9 := hP.cell (i := 9) rfl
        have x10 := hP.cell (i := 10) rfl
        by_cases hkd : kd = K
        case neg =>
          have d : (kd != K) = true := by simpa using hkd
          have HB := Lib.hid hbl
          clear hbl hP hr1 hkd
          go_wp2_with fail
          go_roundw
          case rel => exact ⟨k + 1, by omega, by omega, by go_num, HB.out⟩
          case measure => simp [intOf]; omega
        subst hkd
        have C1 := cmd_bytes ⟨pl, sq, kd, nn, us, ti, wd, ht, ax, ay⟩ A1 m1 c1 _ w1 hr1 (Nat.le_refl _) (by omega)
        have C2 := fun W (h : Reads W W.heap.size 1 A1 m1 (nums .i64 us)) => ref_cmd_is ⟨pl, sq, kd, nn, us, ti, wd, ht, ax, ay⟩ A1 m1 c1 _ W h (Nat.le_refl _) (by omega)
        unfold GivesNum at C1
        cases hM : mayC ⟨pl, sq, kd, nn, us, ti, wd, ht, ax, ay⟩ with
        | false =>
          have e1 : bytesR ⟨pl, sq, kd, nn, us, ti, wd, ht, ax, ay⟩ = ([], 1) := by unfold bytesR; rw [hM]; rfl
          rw [e1] at C1
          rw [hM] at C2
          simp only [cmdV] at C1 C2
          replace C1 := Lib.hid C1
          replace C2 := Lib.hid C2
          clear hM e1
          go_wp2_with fail
          refine Calls.mono C1.out ?_
          rintro e w2 ⟨A3, c3, rfl, _, hb2⟩
          clear x0 x1 x2 x3 x4 x5 x6 x7 x8 x9 x10
          replace hr1 := (hr1.below hb2).more hb2.size
          replace hP := hP.below hb2 hP.lt
          replace hbl := hbl.trans (hb2.mono hbl.size)
          clear hb2 C1
          have x0 := hP.cell (i := 0) rfl
          have x1 := hP.cell (i := 1) rfl
          have x2 := hP.cell (i := 2) rfl
          have x3 := hP.cell (i := 3) rfl
          have x4 := hP.cell (i := 4) rfl
          have x5 := hP.cell (i := 5) rfl
          have x6 := hP.cell (i := 6) rfl
          have x7 := hP.cell (i := 7) rfl
          have x8 := hP.cell (i := 8) rfl
          have x9 := hP.cell (i := 9) rfl
          have x10 := hP.cell (i := 10) rfl
          go_wp2_with fail
          refine Calls.mono (C2.out _ hr1) ?_
          rintro e w3 ⟨rfl, hb3⟩
          have HB := Lib.hid (hbl.trans (hb3.mono hbl.size))
          clear x0 x1 x2 x3 x4 x5 x6 x7 x8 x9 x10
          clear hbl hb3 hP hr1 C2
          go_wp2_with fail
          refine Calls.mono (num22 _ _) ?_
          rintro e wn ⟨rfl, rfl⟩
          go_wp2_with fail
          go_roundw
          case rel => exact ⟨k + 1, by omega, by omega, by go_num, HB.out⟩
          case measure => simp [intOf]; omega
        | true =>
          have e1 : bytesR ⟨pl, sq, kd, nn, us, ti, wd, ht, ax, ay⟩ = (encC ⟨pl, sq, kd, nn, us, ti, wd, ht, ax, ay⟩, 0) := by unfold bytesR; rw [hM]; rfl
          rw [e1] at C1
          rw [hM] at C2
          obtain ⟨⟨tl, htl⟩, hlen, hpar⟩ := enc_facts hM
          have hbe := bytes_encC ⟨pl, sq, kd, nn, us, ti, wd, ht, ax, ay⟩
          have hbd := may_bounds hM
          have CP := fun (A3 : Option Addr) (c3 : Nat) W (h : Reads W W.heap.size 1 A3 (encC ⟨pl, sq, kd, nn, us, ti, wd, ht, ax, ay⟩).length (nums .u8 (encC ⟨pl, sq, kd, nn, us, ti, wd, ht, ax, ay⟩))) (h1 : (encC ⟨pl, sq, kd, nn, us, ti, wd, ht, ax, ay⟩).length ≤ c3) (h2 : c3 ≤ 9223372036854775807) => cmd_parse A3 (encC ⟨pl, sq, kd, nn, us, ti, wd, ht, ax, ay⟩).length c3 _ (encC ⟨pl, sq, kd, nn, us, ti, wd, ht, ax, ay⟩) W ⟨h, hbe, h1, by omega, by omega⟩ (Nat.le_refl _)
          unfold GivesCmd at CP
          rw [hpar] at CP
          simp only [cmdV] at C1 C2 CP
          have hl1 : (encC ⟨pl, sq, kd, nn, us, ti, wd, ht, ax, ay⟩).length = tl.length + 1 := by rw [htl]; rfl
          generalize encC ⟨pl, sq, kd, nn, us, ti, wd, ht, ax, ay⟩ = bs at *
          simp only at htl
          generalize hN : bs.length = N at *
          have hN1 : 1 ≤ N := by omega
          clear hl1 hN
          replace C1 := Lib.hid C1
          replace C2 := Lib.hid C2
          replace CP := Lib.hid CP
          clear hM e1 hpar hbe
          go_wp2_with fail
          refine Calls.mono C1.out ?_
          rintro e w2 ⟨A3, c3, rfl, hown3, hb2⟩
          clear x0 x1 x2 x3 x4 x5 x6 x7 x8 x9 x10
          replace hr1 := (hr1.below hb2).more hb2.size
          replace hP := hP.below hb2 hP.lt
          replace hbl := hbl.trans (hb2.mono hbl.size)
          clear hb2 C1
          obtain ⟨hc3a, hc3b⟩ := own_cap hown3
          subst htl
          obtain ⟨g3, rfl, _, hg3, kg⟩ := own_first hown3
          have x0 := hP.cell (i := 0) rfl
          have x1 := hP.cell (i := 1) rfl
          have x2 := hP.cell (i := 2) rfl
          have x3 := hP.cell (i := 3) rfl
          have x4 := hP.cell (i := 4) rfl
          have x5 := hP.cell (i := 5) rfl
          have x6 := hP.cell (i := 6) rfl
          have x7 := hP.cell (i := 7) rfl
          have x8 := hP.cell (i := 8) rfl
          have x9 := hP.cell (i := 9) rfl
          have x10 := hP.cell (i := 10) rfl
          go_wp2_with fail
          refine Calls.mono (C2.out _ hr1) ?_
          rintro e w3 ⟨rfl, hb3⟩
          clear x0 x1 x2 x3 x4 x5 x6 x7 x8 x9 x10
          replace kg := (hb3.cell (p := ⟨g3, 0, none⟩) hg3).trans kg
          replace hg3 := Nat.lt_of_lt_of_le hg3 hb3.size
          replace hr1 := (hr1.below hb3).more hb3.size
          replace hP := hP.below hb3 hP.lt
          replace hown3 := own_below hown3 hb3
          replace hbl := hbl.trans (hb3.mono hbl.size)
          clear hb3 C2
          go_wp2_with fail
          refine Calls.mono (num22 _ _) ?_
          rintro e wn ⟨rfl, rfl⟩
          have CPw := Lib.hid (CP.out _ c3 w3 (Reads.of_own hown3) (by omega) (by omega))
          clear CP
          go_wp2_with fail
          refine Calls.mono CPw.out ?_
          rintro e w4 ⟨A4, m4, c4, rfl, hown4, hm4, hb4⟩
          replace kg := (hb4.cell (p := ⟨g3, 0, none⟩) hg3).trans kg
          replace hg3 := Nat.lt_of_lt_of_le hg3 hb4.size
          replace hr1 := (hr1.below hb4).more hb4.size
          replace hP := hP.below hb4 hP.lt
          replace hbl := hbl.trans (hb4.mono hbl.size)
          clear hb4 CPw hown3
          have hX := Blk.new w4 (cmdCs pl sq kd nn A4 m4 c4 ti wd ht ax ay) 28
          have hbX : Below w4.heap.size w4 (w4.alloc (.cells (cmdCs pl sq kd nn A4 m4 c4 ti wd ht ax ay) 28)) := (Below.refl _ _).alloc (Nat.le_refl _) _
          replace kg := (hbX.cell (p := ⟨g3, 0, none⟩) hg3).trans kg
          replace hr1 := (hr1.below hbX).more hbX.size
          replace hP := hP.below hbX hP.lt
          replace hown4 := own_below hown4 hbX
          replace hbl := hbl.trans (hbX.mono hbl.size)
          go_wp2_with fail
          generalize w4.alloc (.cells (cmdCs pl sq kd nn A4 m4 c4 ti wd ht ax ay) 28) = w5 at *
          generalize w4.heap.size = X at *
          clear hbX hg3
          refine Calls.mono (num22 _ _) ?_
          rintro e wn ⟨rfl, rfl⟩
          have E := eq_cmd ⟨pl, sq, kd, nn, us, ti, wd, ht, ax, ay⟩ ⟨pl, sq, kd, nn, us, ti, wd, ht, ax, ay⟩ A4 A1 m4 c4 m1 c1 _ _ w5 (Reads.of_own hown4) hr1 (Nat.le_refl _) (Nat.le_refl _) (by omega) (by omega)
          rw [eqC_self] at E
          simp only [cmdV] at E
          replace E := Lib.hid E
          have x0 := hP.cell (i := 0) rfl
          have x1 := hP.cell (i := 1) rfl
          have x2 := hP.cell (i := 2) rfl
          have x3 := hP.cell (i := 3) rfl
          have x4 := hP.cell (i := 4) rfl
          have x5 := hP.cell (i := 5) rfl
          have x6 := hP.cell (i := 6) rfl
          have x7 := hP.cell (i := 7) rfl
          have x8 := hP.cell (i := 8) rfl
          have x9 := hP.cell (i := 9) rfl
          have x10 := hP.cell (i := 10) rfl
          have z0 := hX.cell (i := 0) rfl
          have z1 := hX.cell (i := 1) rfl
          have z2 := hX.cell (i := 2) rfl
          have z3 := hX.cell (i := 3) rfl
          have z4 := hX.cell (i := 4) rfl
          have z5 := hX.cell (i := 5) rfl
          have z6 := hX.cell (i := 6) rfl
          have z7 := hX.cell (i := 7) rfl
          have z8 := hX.cell (i := 8) rfl
          have z9 := hX.cell (i := 9) rfl
          have hgl := World.block_lt_of_cell? w5 ⟨g3, 0, none⟩ kg
          go_wp2_with fail
          refine Calls.mono E.out ?_
          rintro e w6 ⟨rfl, hb6⟩
          replace kg := (hb6.cell (p := ⟨g3, 0, none⟩) hgl).trans kg
          clear x0 x1 x2 x3 x4 x5 x6 x7 x8 x9 x10
          clear z0 z1 z2 z3 z4 z5 z6 z7 z8 z9
          replace hX := hX.below hb6 hX.lt
          replace hown4 := own_below hown4 hb6
          replace hbl := hbl.trans (hb6.mono hbl.size)
          clear hb6 E hP hr1 hgl
          obtain ⟨⟨q1, q2⟩, ⟨q3, q4⟩, q5, q6, ⟨q7, q8⟩, ⟨q9, q10⟩, ⟨q11, q12⟩, ⟨q13, q14⟩, ⟨q15, q16⟩, ⟨q17, q18⟩, ⟨q19, q20⟩⟩ := hbd
          have dN : ((N : Int) == 0) = false := by rw [beq_eq_false_iff_ne]; omega
          go_wp2_with fail
          generalize w3.heap.size = B4 at *
          clear kg dN
          go_loopw [13] (fun jv wr => ∃ (j : Nat), j ≤ 5 ∧ jv = .int .i64 (j : Int) ∧ Blk wr X (cmdCs pl sq kd nn A4 m4 c4 ti wd ht ax ay) 28 ∧ wr.ownsRow B4 3 1 (.slice A4 m4 c4) m4 (nums .i64 us) ∧ Below w.heap.size w wr) (fun jv _ => 5 - (intOf jv).toNat)
          case atStart => exact ⟨0, by omega, rfl, hX, hown4, hbl⟩
          case round =>
            obtain ⟨j, hj, rfl, hX, hown4, hbl⟩ := hrel
            by_cases hj5 : j < 5
            case neg =>
              have HB := Lib.hid hbl
              clear hbl hX hown4
              go_wp2_with fail
              go_roundw
              case rel => exact ⟨k + 1, by omega, by omega, by go_num, HB.out⟩
              case measure => simp [intOf]; omega
            have CC := copy_cmd ⟨pl, sq, kd, nn, us, ti, wd, ht, ax, ay⟩ A4 m4 c4 _ wr (Reads.of_own hown4) (Nat.le_refl _) (by omega)
            simp only [cmdV] at CC
            replace CC := Lib.hid CC
            have hXl := hX.lt
            have hblr := hbl.size
            have hlt4 : ∀ g, (Value.slice A4 m4 c4).ownBlock = some g → g < wr.heap.size := fun g hg => (hown4.lt g hg).2
            have hm64 : m4 ≤ 66 := hm4
            rcases (show j = 0 ∨ j = 1 ∨ j = 2 ∨ j = 3 ∨ j = 4 from by omega) with rfl | rfl | rfl | rfl | rfl
            · skip
              have z0 := hX.cell (i := 0) rfl
              have z1 := hX.cell (i := 1) rfl
              have z2 := hX.cell (i := 2) rfl
              have z3 := hX.cell (i := 3) rfl
              have z4 := hX.cell (i := 4) rfl
              have z5 := hX.cell (i := 5) rfl
              have z6 := hX.cell (i := 6) rfl
              have z7 := hX.cell (i := 7) rfl
              have z8 := hX.cell (i := 8) rfl
              have z9 := hX.cell (i := 9) rfl
              go_wp2_with fail
              refine Calls.mono CC.out ?_
              rintro e w7 ⟨A6, c6, rfl, hown6, hb7⟩
              clear z0 z1 z2 z3 z4 z5 z6 z7 z8 z9
              replace hX := hX.below hb7 hX.lt
              replace hown4 := own_below hown4 hb7
              replace hbl := hbl.trans (hb7.mono hbl.size)
              have hs7 := hb7.size
              clear hb7 CC
              have hY := Blk.new w7 (cmdCs pl sq kd (nn + 1) A6 m4 c6 ti wd ht ax ay) 28
              have hbY : Below w7.heap.size w7 (w7.alloc (.cells (cmdCs pl sq kd (nn + 1) A6 m4 c6 ti wd ht ax ay) 28)) := (Below.refl _ _).alloc (Nat.le_refl _) _
              replace hX := hX.below hbY hX.lt
              replace hown4 := own_below hown4 hbY
              replace hown6 := own_below hown6 hbY
              replace hbl := hbl.trans (hbY.mono hbl.size)
              go_wp2_with fail
              generalize w7.alloc (.cells (cmdCs pl sq kd (nn + 1) A6 m4 c6 ti wd ht ax ay) 28) = w8 at *
              generalize w7.heap.size = Y at *
              clear hbY
              have hR6 := Reads.of_own hown6
              have M1 := fun u => calls_over (x := u) (check_is ⟨pl, sq, kd, nn + 1, us, ti, wd, ht, ax, ay⟩ A6 m4 c6 _ (over w8 u) (hR6.over (Nat.le_refl _)) (over_below w8 u).size (by omega))
              have M2 := fun u => calls_over (x := u) (ref_cmd_is ⟨pl, sq, kd, nn + 1, us, ti, wd, ht, ax, ay⟩ A6 m4 c6 _ (over w8 u) (hR6.over (Nat.le_refl _)) (over_below w8 u).size (by omega))
              have M3 := fun (x : Int) u => calls_over_same (x := u) (num22 x (over w8 u))
              generalize mayC ⟨pl, sq, kd, nn + 1, us, ti, wd, ht, ax, ay⟩ = R at *
              simp only [cmdV] at M1 M2
              replace M1 := Lib.hid M1
              replace M2 := Lib.hid M2
              replace M3 := Lib.hid M3
              have HX := Lib.hid hX
              have HO := Lib.hid hown4
              have HB := Lib.hid hbl
              have hYl := hY.lt
              have y0 := hY.cell (i := 0) rfl
              have y1 := hY.cell (i := 1) rfl
              have y2 := hY.cell (i := 2) rfl
              have y3 := hY.cell (i := 3) rfl
              have y4 := hY.cell (i := 4) rfl
              have y5 := hY.cell (i := 5) rfl
              have y6 := hY.cell (i := 6) rfl
              have y7 := hY.cell (i := 7) rfl
              have y8 := hY.cell (i := 8) rfl
              have y9 := hY.cell (i := 9) rfl
              clear hX hown4 hbl hY hR6
              cases R
              all_goals
                refine wp_region_over (by kernel_rfl) (by kernel_rfl) ?_
                repeat (go_big_quiet_step (first | (go_at_call 18; with_reducible exact M1.out _) | (go_at_call 17; with_reducible exact M3.out _ _) | (go_at_call 16; with_reducible exact M2.out _)))
                refine wpQuiet_nil ?_
                rintro wq ⟨xq, rfl⟩
                have hq := over_below w8 xq
                generalize over w8 xq = wz at *
                clear y0 y1 y2 y3 y4 y5 y6 y7 y8 y9
                have HX2 := Lib.hid (HX.out.below hq HX.out.lt)
                have HO2 := Lib.hid (own_below HO.out hq)
                have HB2 := Lib.hid (HB.out.trans (hq.mono HB.out.size))
                clear hq HX HO HB M1 M2 M3
                go_wp2_with fail
                go_roundw
                case rel => exact ⟨1, by omega, by go_num, HX2.out, HO2.out, HB2.out⟩
                case measure => simp [intOf]
            · skip
              have z0 := hX.cell (i := 0) rfl
              have z1 := hX.cell (i := 1) rfl
              have z2 := hX.cell (i := 2) rfl
              have z3 := hX.cell (i := 3) rfl
              have z4 := hX.cell (i := 4) rfl
              have z5 := hX.cell (i := 5) rfl
              have z6 := hX.cell (i := 6) rfl
              have z7 := hX.cell (i := 7) rfl
              have z8 := hX.cell (i := 8) rfl
              have z9 := hX.cell (i := 9) rfl
              go_wp2_with fail
              refine Calls.mono CC.out ?_
              rintro e w7 ⟨A6, c6, rfl, hown6, hb7⟩
              clear z0 z1 z2 z3 z4 z5 z6 z7 z8 z9
              replace hX := hX.below hb7 hX.lt
              replace hown4 := own_below hown4 hb7
              replace hbl := hbl.trans (hb7.mono hbl.size)
              have hs7 := hb7.size
              clear hb7 CC
              have hY := Blk.new w7 (cmdCs pl sq kd nn A6 m4 c6 ti wd ht ax ay) 28
              have hbY : Below w7.heap.size w7 (w7.alloc (.cells (cmdCs pl sq kd nn A6 m4 c6 ti wd ht ax ay) 28)) := (Below.refl _ _).alloc (Nat.le_refl _) _
              replace hX := hX.below hbY hX.lt
              replace hown4 := own_below hown4 hbY
              replace hown6 := own_below hown6 hbY
              replace hbl := hbl.trans (hbY.mono hbl.size)
              have cA : m4 + 1 ≤ maxLen := by unfold maxLen; omega
              have cB : (m4 + 1) * 8 ≤ 140737488355328 := by omega
              have hsW : wr.heap.size ≤ (w7.alloc (.cells (cmdCs pl sq kd nn A6 m4 c6 ti wd ht ax ay) 28)).heap.size := Nat.le_trans hs7 hbY.size
              go_wp2_with (at_builtin; go_loud (refine wpList_push2 (w7.alloc (.cells (cmdCs pl sq kd nn A6 m4 c6 ti wd ht ax ay) 28)) _ rfl _ _ _ rfl wr.heap.size 3 i0 _ 1 8 Try.underlying24 hi0 hz0 hz1 hz2 rfl Nat.one_pos _ _ _ rfl hown6 [.int .i64 1099511627776] rfl (slice_alloc w7 _) rfl (one_int _ _) cA cB hsW ?_); intro A9 c9 w9 hown9 hb9 hk9; have hY9 : Blk w9 w7.heap.size (cmdCs pl sq kd nn A6 m4 c6 ti wd ht ax ay) 28 := hk9 _ _ _ (by decide) hY; have y4 := hY9.cell (i := 4) rfl; have yf4 := hY9.free 4)
              have hX9 := hX.below hb9 hXl
              have hown49 := own_under hown4 hlt4 hb9
              have hbl9 : Below w.heap.size w w9 := hbl.trans (hb9.mono hblr)
              have hs9 := hb9.size
              clear y4 yf4 hX hown4 hbl hY hbY hown6 hk9 hb9 cA cB
              have hX := hX9.other (a := ⟨w7.heap.size, 4, none⟩) (by show X ≠ w7.heap.size; omega) (.slice A9 (m4 + 1) c9)
              have hY := hY9.set 4 (.slice A9 (m4 + 1) c9)
              have hown4 := own_set hown49 hlt4 (a := ⟨w7.heap.size, 4, none⟩) (by show wr.heap.size ≤ w7.heap.size; exact hs7) (.slice A9 (m4 + 1) c9)
              have hbl := hbl9.setCell (p := ⟨w7.heap.size, 4, none⟩) (by show w.heap.size ≤ w7.heap.size; omega) (.slice A9 (m4 + 1) c9)
              rw [nums_snoc] at hown9
              have hR9 := (Reads.of_own hown9).blkset hY9 4 (.slice A9 (m4 + 1) c9) (by decide) hown9
              clear hX9 hown49 hbl9 hY9 hown9 hsW
              generalize w9.setCell ⟨w7.heap.size, 4, none⟩ (.slice A9 (m4 + 1) c9) = w8 at *
              generalize w7.heap.size = Y at *
              have hR6 := hR9
              have M1 := fun u => calls_over (x := u) (check_is ⟨pl, sq, kd, nn, us ++ [1099511627776], ti, wd, ht, ax, ay⟩ A9 (m4 + 1) c9 _ (over w8 u) (hR6.over (Nat.le_refl _)) (over_below w8 u).size (by omega))
              have M2 := fun u => calls_over (x := u) (ref_cmd_is ⟨pl, sq, kd, nn, us ++ [1099511627776], ti, wd, ht, ax, ay⟩ A9 (m4 + 1) c9 _ (over w8 u) (hR6.over (Nat.le_refl _)) (over_below w8 u).size (by omega))
              have M3 := fun (x : Int) u => calls_over_same (x := u) (num22 x (over w8 u))
              generalize mayC ⟨pl, sq, kd, nn, us ++ [1099511627776], ti, wd, ht, ax, ay⟩ = R at *
              simp only [cmdV] at M1 M2
              replace M1 := Lib.hid M1
              replace M2 := Lib.hid M2
              replace M3 := Lib.hid M3
              have HX := Lib.hid hX
              have HO := Lib.hid hown4
              have HB := Lib.hid hbl
              have hYl := hY.lt
              have y0 := hY.cell (i := 0) rfl
              have y1 := hY.cell (i := 1) rfl
              have y2 := hY.cell (i := 2) rfl
              have y3 := hY.cell (i := 3) rfl
              have y4 := hY.cell (i := 4) rfl
              have y5 := hY.cell (i := 5) rfl
              have y6 := hY.cell (i := 6) rfl
              have y7 := hY.cell (i := 7) rfl
              have y8 := hY.cell (i := 8) rfl
              have y9 := hY.cell (i := 9) rfl
              clear hX hown4 hbl hY hR6
              cases R
              all_goals
                refine wp_region_over (by kernel_rfl) (by kernel_rfl) ?_
                repeat (go_big_quiet_step (first | (go_at_call 18; with_reducible exact M1.out _) | (go_at_call 17; with_reducible exact M3.out _ _) | (go_at_call 16; with_reducible exact M2.out _)))
                refine wpQuiet_nil ?_
                rintro wq ⟨xq, rfl⟩
                have hq := over_below w8 xq
                generalize over w8 xq = wz at *
                clear y0 y1 y2 y3 y4 y5 y6 y7 y8 y9
                have HX2 := Lib.hid (HX.out.below hq HX.out.lt)
                have HO2 := Lib.hid (own_below HO.out hq)
                have HB2 := Lib.hid (HB.out.trans (hq.mono HB.out.size))
                clear hq HX HO HB M1 M2 M3
                go_wp2_with fail
                go_roundw
                case rel => exact ⟨2, by omega, by go_num, HX2.out, HO2.out, HB2.out⟩
                case measure => simp [intOf]
            · skip
              have z0 := hX.cell (i := 0) rfl
              have z1 := hX.cell (i := 1) rfl
              have z2 := hX.cell (i := 2) rfl
              have z3 := hX.cell (i := 3) rfl
              have z4 := hX.cell (i := 4) rfl
              have z5 := hX.cell (i := 5) rfl
              have z6 := hX.cell (i := 6) rfl
              have z7 := hX.cell (i := 7) rfl
              have z8 := hX.cell (i := 8) rfl
              have z9 := hX.cell (i := 9) rfl
              go_wp2_with fail
              refine Calls.mono CC.out ?_
              rintro e w7 ⟨A6, c6, rfl, hown6, hb7⟩
              clear z0 z1 z2 z3 z4 z5 z6 z7 z8 z9
              replace hX := hX.below hb7 hX.lt
              replace hown4 := own_below hown4 hb7
              replace hbl := hbl.trans (hb7.mono hbl.size)
              have hs7 := hb7.size
              clear hb7 CC
              have hY := Blk.new w7 (cmdCs pl sq kd nn A6 m4 c6 (ti + 1) wd ht ax ay) 28
              have hbY : Below w7.heap.size w7 (w7.alloc (.cells (cmdCs pl sq kd nn A6 m4 c6 (ti + 1) wd ht ax ay) 28)) := (Below.refl _ _).alloc (Nat.le_refl _) _
              replace hX := hX.below hbY hX.lt
              replace hown4 := own_below hown4 hbY
              replace hown6 := own_below hown6 hbY
              replace hbl := hbl.trans (hbY.mono hbl.size)
              go_wp2_with fail
              generalize w7.alloc (.cells (cmdCs pl sq kd nn A6 m4 c6 (ti + 1) wd ht ax ay) 28) = w8 at *
              generalize w7.heap.size = Y at *
              clear hbY
              have hR6 := Reads.of_own hown6
              have M1 := fun u => calls_over (x := u) (check_is ⟨pl, sq, kd, nn, us, ti + 1, wd, ht, ax, ay⟩ A6 m4 c6 _ (over w8 u) (hR6.over (Nat.le_refl _)) (over_below w8 u).size (by omega))
              have M2 := fun u => calls_over (x := u) (ref_cmd_is ⟨pl, sq, kd, nn, us, ti + 1, wd, ht, ax, ay⟩ A6 m4 c6 _ (over w8 u) (hR6.over (Nat.le_refl _)) (over_below w8 u).size (by omega))
              have M3 := fun (x : Int) u => calls_over_same (x := u) (num22 x (over w8 u))
              generalize mayC ⟨pl, sq, kd, nn, us, ti + 1, wd, ht, ax, ay⟩ = R at *
              simp only [cmdV] at M1 M2
              replace M1 := Lib.hid M1
              replace M2 := Lib.hid M2
              replace M3 := Lib.hid M3
              have HX := Lib.hid hX
              have HO := Lib.hid hown4
              have HB := Lib.hid hbl
              have hYl := hY.lt
              have y0 := hY.cell (i := 0) rfl
              have y1 := hY.cell (i := 1) rfl
              have y2 := hY.cell (i := 2) rfl
              have y3 := hY.cell (i := 3) rfl
              have y4 := hY.cell (i := 4) rfl
              have y5 := hY.cell (i := 5) rfl
              have y6 := hY.cell (i := 6) rfl
              have y7 := hY.cell (i := 7) rfl
              have y8 := hY.cell (i := 8) rfl
              have y9 := hY.cell (i := 9) rfl
              clear hX hown4 hbl hY hR6
              cases R
              all_goals
                refine wp_region_over (by kernel_rfl) (by kernel_rfl) ?_
                repeat (go_big_quiet_step (first | (go_at_call 18; with_reducible exact M1.out _) | (go_at_call 17; with_reducible exact M3.out _ _) | (go_at_call 16; with_reducible exact M2.out _)))
                refine wpQuiet_nil ?_
                rintro wq ⟨xq, rfl⟩
                have hq := over_below w8 xq
                generalize over w8 xq = wz at *
                clear y0 y1 y2 y3 y4 y5 y6 y7 y8 y9
                have HX2 := Lib.hid (HX.out.below hq HX.out.lt)
                have HO2 := Lib.hid (own_below HO.out hq)
                have HB2 := Lib.hid (HB.out.trans (hq.mono HB.out.size))
                clear hq HX HO HB M1 M2 M3
                go_wp2_with fail
                go_roundw
                case rel => exact ⟨3, by omega, by go_num, HX2.out, HO2.out, HB2.out⟩
                case measure => simp [intOf]
            · skip
              have z0 := hX.cell (i := 0) rfl
              have z1 := hX.cell (i := 1) rfl
              have z2 := hX.cell (i := 2) rfl
              have z3 := hX.cell (i := 3) rfl
              have z4 := hX.cell (i := 4) rfl
              have z5 := hX.cell (i := 5) rfl
              have z6 := hX.cell (i := 6) rfl
              have z7 := hX.cell (i := 7) rfl
              have z8 := hX.cell (i := 8) rfl
              have z9 := hX.cell (i := 9) rfl
              go_wp2_with fail
              refine Calls.mono CC.out ?_
              rintro e w7 ⟨A6, c6, rfl, hown6, hb7⟩
              clear z0 z1 z2 z3 z4 z5 z6 z7 z8 z9
              replace hX := hX.below hb7 hX.lt
              replace hown4 := own_below hown4 hb7
              replace hbl := hbl.trans (hb7.mono hbl.size)
              have hs7 := hb7.size
              clear hb7 CC
              have hY := Blk.new w7 (cmdCs pl sq kd nn A6 m4 c6 ti (wd + 1) ht ax ay) 28
              have hbY : Below w7.heap.size w7 (w7.alloc (.cells (cmdCs pl sq kd nn A6 m4 c6 ti (wd + 1) ht ax ay) 28)) := (Below.refl _ _).alloc (Nat.le_refl _) _
              replace hX := hX.below hbY hX.lt
              replace hown4 := own_below hown4 hbY
              replace hown6 := own_below hown6 hbY
              replace hbl := hbl.trans (hbY.mono hbl.size)
              go_wp2_with fail
              generalize w7.alloc (.cells (cmdCs pl sq kd nn A6 m4 c6 ti (wd + 1) ht ax ay) 28) = w8 at *
              generalize w7.heap.size = Y at *
              clear hbY
              have hR6 := Reads.of_own hown6
              have M1 := fun u => calls_over (x := u) (check_is ⟨pl, sq, kd, nn, us, ti, wd + 1, ht, ax, ay⟩ A6 m4 c6 _ (over w8 u) (hR6.over (Nat.le_refl _)) (over_below w8 u).size (by omega))
              have M2 := fun u => calls_over (x := u) (ref_cmd_is ⟨pl, sq, kd, nn, us, ti, wd + 1, ht, ax, ay⟩ A6 m4 c6 _ (over w8 u) (hR6.over (Nat.le_refl _)) (over_below w8 u).size (by omega))
              have M3 := fun (x : Int) u => calls_over_same (x := u) (num22 x (over w8 u))
              generalize mayC ⟨pl, sq, kd, nn, us, ti, wd + 1, ht, ax, ay⟩ = R at *
              simp only [cmdV] at M1 M2
              replace M1 := Lib.hid M1
              replace M2 := Lib.hid M2
              replace M3 := Lib.hid M3
              have HX := Lib.hid hX
              have HO := Lib.hid hown4
              have HB := Lib.hid hbl
              have hYl := hY.lt
              have y0 := hY.cell (i := 0) rfl
              have y1 := hY.cell (i := 1) rfl
              have y2 := hY.cell (i := 2) rfl
              have y3 := hY.cell (i := 3) rfl
              have y4 := hY.cell (i := 4) rfl
              have y5 := hY.cell (i := 5) rfl
              have y6 := hY.cell (i := 6) rfl
              have y7 := hY.cell (i := 7) rfl
              have y8 := hY.cell (i := 8) rfl
              have y9 := hY.cell (i := 9) rfl
              clear hX hown4 hbl hY hR6
              cases R
              all_goals
                refine wp_region_over (by kernel_rfl) (by kernel_rfl) ?_
                repeat (go_big_quiet_step (first | (go_at_call 18; with_reducible exact M1.out _) | (go_at_call 17; with_reducible exact M3.out _ _) | (go_at_call 16; with_reducible exact M2.out _)))
                refine wpQuiet_nil ?_
                rintro wq ⟨xq, rfl⟩
                have hq := over_below w8 xq
                generalize over w8 xq = wz at *
                clear y0 y1 y2 y3 y4 y5 y6 y7 y8 y9
                have HX2 := Lib.hid (HX.out.below hq HX.out.lt)
                have HO2 := Lib.hid (own_below HO.out hq)
                have HB2 := Lib.hid (HB.out.trans (hq.mono HB.out.size))
                clear hq HX HO HB M1 M2 M3
                go_wp2_with fail
                go_roundw
                case rel => exact ⟨4, by omega, by go_num, HX2.out, HO2.out, HB2.out⟩
                case measure => simp [intOf]
            · skip
              have z0 := hX.cell (i := 0) rfl
              have z1 := hX.cell (i := 1) rfl
              have z2 := hX.cell (i := 2) rfl
              have z3 := hX.cell (i := 3) rfl
              have z4 := hX.cell (i := 4) rfl
              have z5 := hX.cell (i := 5) rfl
              have z6 := hX.cell (i := 6) rfl
              have z7 := hX.cell (i := 7) rfl
              have z8 := hX.cell (i := 8) rfl
              have z9 := hX.cell (i := 9) rfl
              go_wp2_with fail
              refine Calls.mono CC.out ?_
              rintro e w7 ⟨A6, c6, rfl, hown6, hb7⟩
              clear z0 z1 z2 z3 z4 z5 z6 z7 z8 z9
              replace hX := hX.below hb7 hX.lt
              replace hown4 := own_below hown4 hb7
              replace hbl := hbl.trans (hb7.mono hbl.size)
              have hs7 := hb7.size
              clear hb7 CC
              have hY := Blk.new w7 (cmdCs pl sq kd nn A6 m4 c6 ti wd ht (ax + 1) ay) 28
              have hbY : Below w7.heap.size w7 (w7.alloc (.cells (cmdCs pl sq kd nn A6 m4 c6 ti wd ht (ax + 1) ay) 28)) := (Below.refl _ _).alloc (Nat.le_refl _) _
              replace hX := hX.below hbY hX.lt
              replace hown4 := own_below hown4 hbY
              replace hown6 := own_below hown6 hbY
              replace hbl := hbl.trans (hbY.mono hbl.size)
              go_wp2_with fail
              generalize w7.alloc (.cells (cmdCs pl sq kd nn A6 m4 c6 ti wd ht (ax + 1) ay) 28) = w8 at *
              generalize w7.heap.size = Y at *
              clear hbY
              have hR6 := Reads.of_own hown6
              have M1 := fun u => calls_over (x := u) (check_is ⟨pl, sq, kd, nn, us, ti, wd, ht, ax + 1, ay⟩ A6 m4 c6 _ (over w8 u) (hR6.over (Nat.le_refl _)) (over_below w8 u).size (by omega))
              have M2 := fun u => calls_over (x := u) (ref_cmd_is ⟨pl, sq, kd, nn, us, ti, wd, ht, ax + 1, ay⟩ A6 m4 c6 _ (over w8 u) (hR6.over (Nat.le_refl _)) (over_below w8 u).size (by omega))
              have M3 := fun (x : Int) u => calls_over_same (x := u) (num22 x (over w8 u))
              generalize mayC ⟨pl, sq, kd, nn, us, ti, wd, ht, ax + 1, ay⟩ = R at *
              simp only [cmdV] at M1 M2
              replace M1 := Lib.hid M1
              replace M2 := Lib.hid M2
              replace M3 := Lib.hid M3
              have HX := Lib.hid hX
              have HO := Lib.hid hown4
              have HB := Lib.hid hbl
              have hYl := hY.lt
              have y0 := hY.cell (i := 0) rfl
              have y1 := hY.cell (i := 1) rfl
              have y2 := hY.cell (i := 2) rfl
              have y3 := hY.cell (i := 3) rfl
              have y4 := hY.cell (i := 4) rfl
              have y5 := hY.cell (i := 5) rfl
              have y6 := hY.cell (i := 6) rfl
              have y7 := hY.cell (i := 7) rfl
              have y8 := hY.cell (i := 8) rfl
              have y9 := hY.cell (i := 9) rfl
              clear hX hown4 hbl hY hR6
              cases R
              all_goals
                refine wp_region_over (by kernel_rfl) (by kernel_rfl) ?_
                repeat (go_big_quiet_step (first | (go_at_call 18; with_reducible exact M1.out _) | (go_at_call 17; with_reducible exact M3.out _ _) | (go_at_call 16; with_reducible exact M2.out _)))
                refine wpQuiet_nil ?_
                rintro wq ⟨xq, rfl⟩
                have hq := over_below w8 xq
                generalize over w8 xq = wz at *
                clear y0 y1 y2 y3 y4 y5 y6 y7 y8 y9
                have HX2 := Lib.hid (HX.out.below hq HX.out.lt)
                have HO2 := Lib.hid (own_below HO.out hq)
                have HB2 := Lib.hid (HB.out.trans (hq.mono HB.out.size))
                clear hq HX HO HB M1 M2 M3
                go_wp2_with fail
                go_roundw
                case rel => exact ⟨5, by omega, by go_num, HX2.out, HO2.out, HB2.out⟩
                case measure => simp [intOf]
      · go_wp2_with fail
        refine Calls.mono (wakes22 _) ?_
        rintro e w3 ⟨rfl, hb3⟩
        go_wp2_with fail
        go_ret
        exact ⟨rfl, hbl.trans (hb3.mono hbl.size)⟩
    · go_wp2_with fail
      refine Calls.mono (wakes22 _) ?_
      rintro e w3 ⟨rfl, hb3⟩
      go_wp2_with fail
      go_ret
      exact ⟨rfl, hbl.trans (hb3.mono hbl.size)⟩
end Go.Proofs.Ytneigplmgellcaa
