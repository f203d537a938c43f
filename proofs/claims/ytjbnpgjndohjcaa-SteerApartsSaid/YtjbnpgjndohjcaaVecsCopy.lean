/- The statements' copies of places, and their comparison. -/
import Derived.Test.YtjbnpgjndohjcaaPush
import Derived.Test.YtjbnpgjndohjcaaBytes
namespace Go.Proofs.Ytjbnpgjndohjcaa
set_option maxRecDepth 20000
set_option maxRecDepth 20000
open Go.RowKit

theorem info_vec : (Try.prog.info? 35).map (fun i => (i.zero, i.size, i.bytes)) = some (some (.agg #[.int .i64 0, .int .i64 0]), 2, 16) := by kernel_rfl
/-- The cells of places. -/
def vecC (l : List (Int × Int)) : List Value := l.flatMap fun z => [.int .i64 z.1, .int .i64 z.2]
theorem vecC_snoc (l : List (Int × Int)) (z : Int × Int) : vecC (l ++ [z]) = vecC l ++ [.int .i64 z.1, .int .i64 z.2] := by simp [vecC]
theorem vecC_take {l : List (Int × Int)} {k : Nat} (h : k < l.length) : vecC (l.take k) ++ [.int .i64 (l.getD k (0, 0)).1, .int .i64 (l.getD k (0, 0)).2] = vecC (l.take (k + 1)) := by
  rw [List.take_succ_eq_append_getElem h, vecC_snoc]
  simp [List.getD, h]
theorem vecC_get : ∀ {l : List (Int × Int)} {i : Nat}, i < l.length → (vecC l)[i * 2]? = some (.int .i64 (l.getD i (0, 0)).1) ∧ (vecC l)[i * 2 + 1]? = some (.int .i64 (l.getD i (0, 0)).2)
  | [], _, h => by simp at h
  | z :: l, 0, _ => ⟨rfl, rfl⟩
  | z :: l, i + 1, h => by
    have ih := vecC_get (l := l) (i := i) (by simpa using h)
    have e : vecC (z :: l) = .int .i64 z.1 :: .int .i64 z.2 :: vecC l := rfl
    rw [e, show (i + 1) * 2 = i * 2 + 1 + 1 by omega]
    simp only [List.getElem?_cons_succ]
    exact ih
theorem vecsL_of_own {w w0 : World} {base : Nat} {e : TypeId} {A A0 : Option Addr} {n c : Nat} {l : List (Int × Int)} (h0 : VecsL w0 A0 n l) (h : w.ownsRow base e 2 (.slice A n c) n (vecC l)) : VecsL w A n l := by
  refine ⟨h0.1, fun i hi => ?_⟩
  obtain ⟨_, _, _, _, _, _, hz⟩ := h0.2 i hi
  obtain ⟨g, cap, hv, hb, hlt⟩ := h.form (by omega)
  injection hv with hA
  subst hA
  obtain ⟨g1, g2⟩ := vecC_get (l := l) (i := i) (by have := h0.1; omega)
  have c1 := h.cells (g := g) rfl (i * 2) _ g1
  have c2 := h.cells (g := g) rfl (i * 2 + 1) _ g2
  rw [Addr.add_lit] at c1 c2
  exact ⟨g, 0, rfl, hlt, c1, by rw [Nat.add_assoc]; exact c2, hz⟩

set_option maxHeartbeats 800000 in
theorem copy_vecs (A : Option Addr) (n c : Nat) (l : List (Int × Int)) (w : World) (hv : VecsL w A n l) (hn : n ≤ 1000) :
    Calls Try.prog 30 #[.slice A n c] w fun e w' => ∃ A' c', e = .returned (.slice A' n c') ∧ VecsL w' A' n l ∧ Below w.heap.size w w' := by
  obtain ⟨i0, hi0, hz0, hz1, hz2⟩ := info_parts info_vec
  have hll := hv.1
  go_enter Try.func30, Try.ntmps30
  go_wp2
  go_loopw [3, 4] (fun v i wr => ∃ (k : Nat) (A' : Option Addr) (c' : Nat), k ≤ n ∧ i = .int .i64 k ∧ v = .slice A' k c' ∧ wr.ownsRow w.heap.size 35 2 (.slice A' k c') k (vecC (l.take k)) ∧ Below w.heap.size w wr) (fun _ i _ => n - (intOf i).toNat)
  case atStart => exact ⟨0, none, 0, Nat.zero_le _, rfl, rfl, World.ownsRow_nil _ _ _ _, Below.refl _ _⟩
  case round =>
    obtain ⟨k, A', c', hk, rfl, rfl, hown, hbl⟩ := hrel
    by_cases hlt : k < n
    · obtain ⟨b, o, rfl, hb, hc1, hc2, _, _⟩ := hv.2 k hlt
      have hc1 := (hbl.cell (p := ⟨b, o + k * 2, none⟩) hb).trans hc1
      have hc2 := (hbl.cell (p := ⟨b, o + k * 2 + 1, none⟩) hb).trans hc2
      have H := Lib.hid (vecC_take (l := l) (k := k) (by omega))
      have ki : (k : Int) < (n : Int) := by omega
      have ki0 : (0 : Int) ≤ (k : Int) := by omega
      generalize (l.getD k (0, 0)).1 = zx at *
      generalize (l.getD k (0, 0)).2 = zy at *
      go_wp2_with (at_builtin; go_loud (refine wpList_push wr _ rfl _ _ _ rfl w.heap.size 35 i0 _ 2 16 Try.underlying27 hi0 hz0 hz1 hz2 rfl (by omega) _ _ _ rfl hown [.int .i64 zx, .int .i64 zy] rfl rfl rfl (by simp [Value.oneCell']) (by unfold maxLen; omega) (by omega) hbl.size ?_); intro A2 c2 w2 hown2 hb2)
      go_roundw
      case rel => exact ⟨k + 1, A2, c2, by omega, by go_num, rfl, by rw [H.out] at hown2; exact hown2, hbl.trans hb2⟩
      case measure => simp [intOf]; omega
    · obtain rfl : k = n := by omega
      have HV := Lib.hid hv
      go_wp2
      go_ret
      exact ⟨A', c', rfl, vecsL_of_own HV.out (by rw [List.take_of_length_le (by omega)] at hown; exact hown), hbl⟩

set_option maxHeartbeats 800000 in
theorem eq_vecs (A1 A2 : Option Addr) (n c1 c2 : Nat) (l : List (Int × Int)) (w : World) (h1 : VecsL w A1 n l) (h2 : VecsL w A2 n l) (hn : n ≤ 1000) :
    Calls Try.prog 33 #[.slice A1 n c1, .slice A2 n c2] w fun e w' => e = .returned (.bool true) ∧ Below w.heap.size w w' := by
  go_enter Try.func33, Try.ntmps33
  go_wp2
  go_loopw [5] (fun i wr => ∃ (k q : Nat), k ≤ n ∧ i = .int .i64 k ∧ wr = w.drewN q) (fun i _ => n - (intOf i).toNat)
  case atStart => exact ⟨0, 0, Nat.zero_le _, rfl, rfl⟩
  case round =>
    obtain ⟨k, q, hk, rfl, rfl⟩ := hrel
    by_cases hlt : k < n
    · obtain ⟨b, o, rfl, hb, ha1, ha2, _, _⟩ := h1.2 k hlt
      obtain ⟨b', o', rfl, hb', hc1, hc2, _, _⟩ := h2.2 k hlt
      have ki : (k : Int) < (n : Int) := by omega
      have ki0 : (0 : Int) ≤ (k : Int) := by omega
      generalize (l.getD k (0, 0)).1 = zx at *
      generalize (l.getD k (0, 0)).2 = zy at *
      go_wp2_with fail
      go_quiet (fail)
      go_wp2
      go_roundw
      case rel => exact ⟨k + 1, _, by omega, by go_num, rfl⟩
      case measure => simp [intOf]; omega
    · go_wp2
      go_ret
      exact ⟨rfl, below_drewN (Below.refl _ _) q⟩
end Go.Proofs.Ytjbnpgjndohjcaa
