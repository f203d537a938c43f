/- Commands compared, and copied. -/
import Derived.Test.YtneigplmgellcaaCmdBools
import Derived.Test.YtneigplmgellcaaCmdParse
import Derived.Test.YtneigplmgellcaaCopyNumbers
namespace Go.Proofs.Ytneigplmgellcaa
set_option maxRecDepth 20000
open Go.RowKit

def eqC (a b : Cmd) : Bool := a.pl == b.pl && a.sq == b.sq && a.kd == b.kd && a.nn == b.nn && a.us == b.us && a.ti == b.ti && a.wd == b.wd && a.ht == b.ht && a.ax == b.ax && a.ay == b.ay
theorem eqC_self (a : Cmd) : eqC a a = true := by simp [eqC]

set_option maxHeartbeats 6400000 in
set_option maxRecDepth 20000 in
theorem eq_cmd (a b : Cmd) (A1 A2 : Option Addr) (m1 c1 m2 c2 B1 B2 : Nat) (w : World) (hr1 : Reads w B1 1 A1 m1 (nums .i64 a.us)) (hr2 : Reads w B2 1 A2 m2 (nums .i64 b.us)) (hB1 : B1 ≤ w.heap.size) (hB2 : B2 ≤ w.heap.size) (hm1 : m1 ≤ 1000000) (hm2 : m2 ≤ 1000000) :
    Calls Try.prog 21 #[cmdV a A1 m1 c1, cmdV b A2 m2 c2] w fun e w' => e = .returned (.bool (eqC a b)) ∧ Below w.heap.size w w' := by
  obtain ⟨pl, sq, kd, nn, us, ti, wd, ht, ax, ay⟩ := a
  obtain ⟨pl2, sq2, kd2, nn2, us2, ti2, wd2, ht2, ax2, ay2⟩ := b
  simp only [cmdV]
  simp only at hr1 hr2
  have HB : Hid (∀ o o2 q, Below w.heap.size w (((w.alloc o).alloc o2).drewN q)) := fun o o2 q => below_drewN (((Below.refl _ _).alloc (Nat.le_refl _) o).alloc (by simp) o2) q
  have HB0 : Hid (∀ o o2, Below w.heap.size w ((w.alloc o).alloc o2)) := fun o o2 => (((Below.refl _ _).alloc (Nat.le_refl _) o).alloc (by simp) o2)
  have C := Lib.hid (fun o o2 => eq_nums A1 A2 m1 c1 m2 c2 B1 B2 us us2 ((w.alloc o).alloc o2) ((hr1.alloc hB1 o).alloc (by simp; omega) o2) ((hr2.alloc hB2 o).alloc (by simp; omega) o2) (by omega) (by omega))
  clear hr1 hr2
  by_cases hpl : pl = pl2
  · subst hpl
    by_cases hsq : sq = sq2
    · subst hsq
      by_cases hkd : kd = kd2
      · subst hkd
        by_cases hnn : nn = nn2
        · subst hnn
          cases hus : (us == us2) with
          | false =>
            have HR : Hid (eqC ⟨pl, sq, kd, nn, us, ti, wd, ht, ax, ay⟩ ⟨pl, sq, kd, nn, us2, ti2, wd2, ht2, ax2, ay2⟩ = false) := by show _ = _; simp [eqC, hus]
            go_enter Try.func21, Try.ntmps21
            go_wp2_with fail
            refine Calls.mono (C.out _ _) ?_
            rintro e w1 ⟨rfl, q, rfl⟩
            rw [hus]
            go_wp2_with fail
            go_ret
            exact ⟨by rw [HR.out]; rfl, HB.out _ _ _⟩
          | true =>
            by_cases hti : ti = ti2
            · subst hti
              by_cases hwd : wd = wd2
              · subst hwd
                by_cases hht : ht = ht2
                · subst hht
                  by_cases hax : ax = ax2
                  · subst hax
                    by_cases hay : ay = ay2
                    · subst hay
                      have HR : Hid (eqC ⟨pl, sq, kd, nn, us, ti, wd, ht, ax, ay⟩ ⟨pl, sq, kd, nn, us2, ti, wd, ht, ax, ay⟩ = true) := by show _ = _; simp [eqC, hus]
                      go_enter Try.func21, Try.ntmps21
                      go_wp2_with fail
                      refine Calls.mono (C.out _ _) ?_
                      rintro e w1 ⟨rfl, q, rfl⟩
                      rw [hus]
                      go_wp2_with fail
                      go_ret
                      exact ⟨by rw [HR.out]; rfl, HB.out _ _ _⟩
                    · have d : (ay == ay2) = false := by simpa using hay
                      have HR : Hid (eqC ⟨pl, sq, kd, nn, us, ti, wd, ht, ax, ay⟩ ⟨pl, sq, kd, nn, us2, ti, wd, ht, ax, ay2⟩ = false) := by show _ = _; simp [eqC, hay]
                      clear hay
                      go_enter Try.func21, Try.ntmps21
                      go_wp2_with fail
                      refine Calls.mono (C.out _ _) ?_
                      rintro e w1 ⟨rfl, q, rfl⟩
                      rw [hus]
                      go_wp2_with fail
                      go_ret
                      exact ⟨by rw [HR.out]; rfl, HB.out _ _ _⟩
                  · have d : (ax == ax2) = false := by simpa using hax
                    have HR : Hid (eqC ⟨pl, sq, kd, nn, us, ti, wd, ht, ax, ay⟩ ⟨pl, sq, kd, nn, us2, ti, wd, ht, ax2, ay2⟩ = false) := by show _ = _; simp [eqC, hax]
                    clear hax
                    go_enter Try.func21, Try.ntmps21
                    go_wp2_with fail
                    refine Calls.mono (C.out _ _) ?_
                    rintro e w1 ⟨rfl, q, rfl⟩
                    rw [hus]
                    go_wp2_with fail
                    go_ret
                    exact ⟨by rw [HR.out]; rfl, HB.out _ _ _⟩
                · have d : (ht == ht2) = false := by simpa using hht
                  have HR : Hid (eqC ⟨pl, sq, kd, nn, us, ti, wd, ht, ax, ay⟩ ⟨pl, sq, kd, nn, us2, ti, wd, ht2, ax2, ay2⟩ = false) := by show _ = _; simp [eqC, hht]
                  clear hht
                  go_enter Try.func21, Try.ntmps21
                  go_wp2_with fail
                  refine Calls.mono (C.out _ _) ?_
                  rintro e w1 ⟨rfl, q, rfl⟩
                  rw [hus]
                  go_wp2_with fail
                  go_ret
                  exact ⟨by rw [HR.out]; rfl, HB.out _ _ _⟩
              · have d : (wd == wd2) = false := by simpa using hwd
                have HR : Hid (eqC ⟨pl, sq, kd, nn, us, ti, wd, ht, ax, ay⟩ ⟨pl, sq, kd, nn, us2, ti, wd2, ht2, ax2, ay2⟩ = false) := by show _ = _; simp [eqC, hwd]
                clear hwd
                go_enter Try.func21, Try.ntmps21
                go_wp2_with fail
                refine Calls.mono (C.out _ _) ?_
                rintro e w1 ⟨rfl, q, rfl⟩
                rw [hus]
                go_wp2_with fail
                go_ret
                exact ⟨by rw [HR.out]; rfl, HB.out _ _ _⟩
            · have d : (ti == ti2) = false := by simpa using hti
              have HR : Hid (eqC ⟨pl, sq, kd, nn, us, ti, wd, ht, ax, ay⟩ ⟨pl, sq, kd, nn, us2, ti2, wd2, ht2, ax2, ay2⟩ = false) := by show _ = _; simp [eqC, hti]
              clear hti
              go_enter Try.func21, Try.ntmps21
              go_wp2_with fail
              refine Calls.mono (C.out _ _) ?_
              rintro e w1 ⟨rfl, q, rfl⟩
              rw [hus]
              go_wp2_with fail
              go_ret
              exact ⟨by rw [HR.out]; rfl, HB.out _ _ _⟩
        · have d : (nn == nn2) = false := by simpa using hnn
          have HR : Hid (eqC ⟨pl, sq, kd, nn, us, ti, wd, ht, ax, ay⟩ ⟨pl, sq, kd, nn2, us2, ti2, wd2, ht2, ax2, ay2⟩ = false) := by show _ = _; simp [eqC, hnn]
          clear hnn
          go_enter Try.func21, Try.ntmps21
          go_wp2_with fail
          go_ret
          exact ⟨by rw [HR.out]; rfl, HB0.out _ _⟩
      · have d : (kd == kd2) = false := by simpa using hkd
        have HR : Hid (eqC ⟨pl, sq, kd, nn, us, ti, wd, ht, ax, ay⟩ ⟨pl, sq, kd2, nn2, us2, ti2, wd2, ht2, ax2, ay2⟩ = false) := by show _ = _; simp [eqC, hkd]
        clear hkd
        go_enter Try.func21, Try.ntmps21
        go_wp2_with fail
        go_ret
        exact ⟨by rw [HR.out]; rfl, HB0.out _ _⟩
    · have d : (sq == sq2) = false := by simpa using hsq
      have HR : Hid (eqC ⟨pl, sq, kd, nn, us, ti, wd, ht, ax, ay⟩ ⟨pl, sq2, kd2, nn2, us2, ti2, wd2, ht2, ax2, ay2⟩ = false) := by show _ = _; simp [eqC, hsq]
      clear hsq
      go_enter Try.func21, Try.ntmps21
      go_wp2_with fail
      go_ret
      exact ⟨by rw [HR.out]; rfl, HB0.out _ _⟩
  · have d : (pl == pl2) = false := by simpa using hpl
    have HR : Hid (eqC ⟨pl, sq, kd, nn, us, ti, wd, ht, ax, ay⟩ ⟨pl2, sq2, kd2, nn2, us2, ti2, wd2, ht2, ax2, ay2⟩ = false) := by show _ = _; simp [eqC, hpl]
    clear hpl
    go_enter Try.func21, Try.ntmps21
    go_wp2_with fail
    go_ret
    exact ⟨by rw [HR.out]; rfl, HB0.out _ _⟩
end Go.Proofs.Ytneigplmgellcaa
