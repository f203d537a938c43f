/- The statements' small helpers on bytes: copies, comparisons. -/
import Derived.Test.YtneigplmgellcaaRows
import Derived.Test.YtneigplmgellcaaBase
namespace Go.Proofs.Ytneigplmgellcaa
set_option maxRecDepth 20000
open Go.RowKit

theorem info_u8 : (Try.prog.info? 5).map (fun i => (i.zero, i.size, i.bytes)) = some (some (.int .u8 0), 1, 1) := by kernel_rfl

theorem nums_take (k : IntKind) (l : List Int) (i : Nat) (h : i < l.length) : nums k (l.take i) ++ [.int k (l.getD i 0)] = nums k (l.take (i + 1)) := by
  unfold nums
  rw [List.take_succ_eq_append_getElem h, List.map_append]
  simp [List.getD, h]

theorem own_nums {w : World} {base : Nat} {e : TypeId} {A : Option Addr} {n c : Nat} {k : IntKind} {l : List Int} (h : w.ownsRow base e 1 (.slice A n c) n (nums k l)) : n = l.length := by
  have := h.1
  simpa [nums] using this.symm
theorem own_nums' {w : World} {base : Nat} {e : TypeId} {A : Option Addr} {n c : Nat} {k : IntKind} {l : List Int} (h : w.ownsRow base e 1 (.slice A n c) n (nums k l)) : w.ownsRow base e 1 (.slice A l.length c) l.length (nums k l) := by
  have := own_nums h
  subst this
  exact h
theorem one_int (k : IntKind) (x : Int) : ∀ u ∈ [Value.int k x], u.oneCell' = true := by simp [Value.oneCell']

set_option maxHeartbeats 400000 in
theorem copy_bytes (A : Option Addr) (n c B : Nat) (l : List Int) (w : World) (hr : Reads w B 1 A n (nums .u8 l)) (hB : B ≤ w.heap.size) (hn : n ≤ 1048576) :
    Calls Try.prog 23 #[.slice A n c] w fun e w' => ∃ A' c', e = .returned (.slice A' n c') ∧ w'.ownsRow w.heap.size 5 1 (.slice A' n c') n (nums .u8 l) ∧ Below w.heap.size w w' := by
  obtain ⟨i0, hi0, hz0, hz1, hz2⟩ := info_parts info_u8
  have hr := hr.more hB
  clear hB
  go_enter Try.func23, Try.ntmps23
  go_wp2
  go_loopw [3, 4] (fun v i wr => ∃ (k : Nat) (A' : Option Addr) (c' : Nat), k ≤ n ∧ i = .int .i64 k ∧ v = .slice A' k c' ∧ wr.ownsRow w.heap.size 5 1 (.slice A' k c') k (nums .u8 (l.take k)) ∧ Below w.heap.size w wr) (fun _ i _ => n - (intOf i).toNat)
  case atStart => exact ⟨0, none, 0, Nat.zero_le _, rfl, rfl, World.ownsRow_nil _ _ _ _, Below.refl _ _⟩
  case round =>
    obtain ⟨k, A', c', hk, rfl, rfl, hown, hbl⟩ := hrel
    by_cases hlt : k < n
    · have hr' := hr.below hbl
      obtain ⟨hll, b, o, rfl, hb, hc⟩ := hr'.num hlt
      have H := Lib.hid (nums_take .u8 l k (by omega))
      clear hll
      generalize l.getD k 0 = x at *
      go_wp2_with (at_builtin; go_loud (refine wpList_push wr _ rfl _ _ _ rfl w.heap.size 5 i0 _ 1 1 Try.underlying29 hi0 hz0 hz1 hz2 rfl (by omega) _ _ _ rfl hown [.int .u8 x] rfl rfl rfl (by simp [Value.oneCell']) (by unfold maxLen; omega) (by omega) hbl.size ?_); intro A2 c2 w2 hown2 hb2)
      go_roundw
      case rel => exact ⟨k + 1, A2, c2, by omega, by go_num, rfl, by rw [H.out] at hown2; exact hown2, hbl.trans hb2⟩
      case measure => simp [intOf]; omega
    · obtain rfl : k = n := by omega
      have hll : l.length = k := by have := hr.1; simpa [nums] using this
      go_wp2
      go_ret
      exact ⟨A', c', rfl, by rw [List.take_of_length_le (by omega)] at hown; exact hown, hbl⟩

theorem getD_of_take {l m : List Int} {k : Nat} (hl : l.take k = m.take k) (h1 : k < l.length) (h2 : k < m.length) (hx : l.getD k 0 = m.getD k 0) : l.take (k + 1) = m.take (k + 1) := by
  rw [List.take_succ_eq_append_getElem h1, List.take_succ_eq_append_getElem h2, hl]
  simp [List.getD, h1, h2] at hx
  rw [hx]
theorem ne_of_getD {l m : List Int} {k : Nat} (hx : ¬ l.getD k 0 = m.getD k 0) : (l == m) = false := by
  rw [beq_eq_false_iff_ne]; rintro rfl; exact hx rfl
theorem Reads.drewN_iff {w : World} {B size n : Nat} {A : Option Addr} {xs : List Value} (k : Nat) : Reads (w.drewN k) B size A n xs ↔ Reads w B size A n xs := Iff.rfl

/-- What EqBytes comes to: the same bytes? Memory is only read. -/
def QuietBool (b : Bool) (w : World) (e : Ending) (w' : World) : Prop := e = .returned (.bool b) ∧ ∃ q, w' = w.drewN q

set_option maxHeartbeats 400000 in
theorem eq_bytes (A1 A2 : Option Addr) (n1 c1 n2 c2 B1 B2 : Nat) (l1 l2 : List Int) (w : World) (hr1 : Reads w B1 1 A1 n1 (nums .u8 l1)) (hr2 : Reads w B2 1 A2 n2 (nums .u8 l2)) (hn1 : n1 ≤ 4611686018427387904) (hn2 : n2 ≤ 4611686018427387904) :
    Calls Try.prog 19 #[.slice A1 n1 c1, .slice A2 n2 c2] w (QuietBool (l1 == l2) w) := by
  have hl1 : l1.length = n1 := by have := hr1.1; simpa [nums] using this
  have hl2 : l2.length = n2 := by have := hr2.1; simpa [nums] using this
  by_cases hne : n1 = n2
  · subst hne
    have HL := Lib.hid hl1
    have HL2 := Lib.hid hl2
    clear hl1 hl2
    go_enter Try.func19, Try.ntmps19
    go_wp2
    go_loopw [5] (fun i wr => ∃ (k q : Nat), k ≤ n1 ∧ i = .int .i64 k ∧ wr = w.drewN q ∧ l1.take k = l2.take k) (fun i _ => n1 - (intOf i).toNat)
    case atStart => exact ⟨0, 0, Nat.zero_le _, rfl, rfl, rfl⟩
    case round =>
      obtain ⟨k, q, hk, rfl, rfl, htk⟩ := hrel
      by_cases hlt : k < n1
      · obtain ⟨_, b, o, rfl, hb, hc⟩ := hr1.num hlt
        obtain ⟨_, b', o', rfl, hb', hc'⟩ := hr2.num hlt
        by_cases hx : l1.getD k 0 = l2.getD k 0
        · have H := Lib.hid (getD_of_take htk (by have := HL.out; omega) (by have := HL2.out; omega) hx)
          have hx' : (l1.getD k 0 != l2.getD k 0) = false := by simp only [hx, bne_self_eq_false]
          clear htk hx
          generalize l1.getD k 0 = x at *
          generalize l2.getD k 0 = y at *
          go_wp2
          go_quiet (fail)
          go_wp2
          go_roundw
          case rel => exact ⟨k + 1, q + nq, by omega, by go_num, rfl, H.out⟩
          case measure => simp [intOf]; omega
        · have H := Lib.hid (ne_of_getD hx)
          have hx' : (l1.getD k 0 != l2.getD k 0) = true := by simpa using hx
          clear htk hx
          generalize l1.getD k 0 = x at *
          generalize l2.getD k 0 = y at *
          go_wp2
          go_quiet (fail)
          go_wp2
          go_ret
          exact ⟨by rw [H.out]; rfl, q + nq, World.drewN_drewN _ _ _⟩
      · obtain rfl : k = n1 := by omega
        have H := Lib.hid htk
        clear htk
        go_wp2
        go_ret
        refine ⟨?_, q, rfl⟩
        have h := H.out
        rw [List.take_of_length_le (by rw [HL.out]; exact Nat.le_refl _), List.take_of_length_le (by rw [HL2.out]; exact Nat.le_refl _)] at h
        rw [h]
        simp
  · have H : Hid ((l1 == l2) = false) := by
      show (l1 == l2) = false
      rw [beq_eq_false_iff_ne]; rintro rfl; omega
    have hd : ((n1 : Int) != (n2 : Int)) = true := by rw [bne_iff_ne]; omega
    clear hl1 hl2
    go_enter Try.func19, Try.ntmps19
    go_wp2
    go_ret
    exact ⟨by rw [H.out]; rfl, 0, rfl⟩
/-- The same, the world told by 'Below'. -/
theorem eq_bytes_b (A1 A2 : Option Addr) (n1 c1 n2 c2 B1 B2 : Nat) (l1 l2 : List Int) (w : World) (b : Bool) (hr1 : Reads w B1 1 A1 n1 (nums .u8 l1)) (hr2 : Reads w B2 1 A2 n2 (nums .u8 l2)) (hn1 : n1 ≤ 4611686018427387904) (hn2 : n2 ≤ 4611686018427387904) (hb : (l1 == l2) = b) :
    Calls Try.prog 19 #[.slice A1 n1 c1, .slice A2 n2 c2] w fun e w' => e = .returned (.bool b) ∧ Below w.heap.size w w' := by
  subst hb
  exact (eq_bytes A1 A2 n1 c1 n2 c2 B1 B2 l1 l2 w hr1 hr2 hn1 hn2).mono fun e w' ⟨he, q, hw⟩ => ⟨he, by rw [hw]; exact below_drewN (Below.refl _ _) q⟩

theorem eq_bytes_q (A1 A2 : Option Addr) (n1 c1 n2 c2 B1 B2 : Nat) (l1 l2 : List Int) (w : World) (b : Bool) (hr1 : Reads w B1 1 A1 n1 (nums .u8 l1)) (hr2 : Reads w B2 1 A2 n2 (nums .u8 l2)) (hn1 : n1 ≤ 4611686018427387904) (hn2 : n2 ≤ 4611686018427387904) (hb : (l1 == l2) = b) :
    Calls Try.prog 19 #[.slice A1 n1 c1, .slice A2 n2 c2] w fun e w' => e = .returned (.bool b) ∧ ∃ q, w' = w.drewN q := by
  subst hb
  exact eq_bytes A1 A2 n1 c1 n2 c2 B1 B2 l1 l2 w hr1 hr2 hn1 hn2
/-- The first cell of a row of the call's own. -/
theorem own_first {w : World} {base : Nat} {e : TypeId} {A : Option Addr} {n c : Nat} {k : IntKind} {x : Int} {l : List Int} (h : w.ownsRow base e 1 (.slice A n c) n (nums k (x :: l))) : ∃ g, A = some ⟨g, 0, none⟩ ∧ base ≤ g ∧ g < w.heap.size ∧ w.cell? ⟨g, 0, none⟩ = some (.int k x) := by
  have hn : n = l.length + 1 := by have := own_nums h; simpa using this
  obtain ⟨g, cap, hv, hb, hlt⟩ := h.form (by omega)
  injection hv with hA
  subst hA
  refine ⟨g, rfl, hb, hlt, ?_⟩
  have := h.cells (g := g) rfl 0 (.int k x) (by simp [nums])
  simpa [Addr.add_lit] using this

end Go.Proofs.Ytneigplmgellcaa
