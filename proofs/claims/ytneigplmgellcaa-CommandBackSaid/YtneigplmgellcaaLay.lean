/- A command's bytes: what each writing function comes to. -/
import Derived.Test.YtneigplmgellcaaKeep
import Derived.Test.YtneigplmgellcaaCmdRead
import Derived.Test.YtneigplmgellcaaWireNum
namespace Go.Proofs.Ytneigplmgellcaa
set_option maxRecDepth 20000
open Go.RowKit

/-- Bytes of the call's own are handed back; blocks of other types are as they were. -/
def GivesKeep (base : Nat) (w : World) (l : List Int) (e : Ending) (w' : World) : Prop :=
  ∃ A c, e = .returned (.slice A l.length c) ∧ w'.ownsRow base 5 1 (.slice A l.length c) l.length (nums .u8 l) ∧ Below base w w' ∧ KeepsB 5 w w'

set_option maxHeartbeats 400000 in
set_option maxRecDepth 20000 in
theorem put_keep (base : Nat) (A : Option Addr) (m c : Nat) (xs : List Int) (n : Nat) (w : World) (hown : w.ownsRow base 5 1 (.slice A m c) m (nums .u8 xs)) (hbase : base ≤ w.heap.size) (hm : m ≤ 16777216) (hn : (n : Int) ≤ 9223372036854775807) :
    Calls Try.prog 47 #[.slice A m c, .int .i64 (n : Int)] w (GivesKeep base w (xs ++ put n)) := by
  obtain ⟨i0, hi0, hz0, hz1, hz2⟩ := info_parts info_u8
  have hml : xs.length = m := by have := hown.1; simpa [nums] using this
  go_enter Try.func47, Try.ntmps47
  go_wp2
  go_loopw [0, 1] (fun v i wr => ∃ (k : Nat) (A' : Option Addr) (c' : Nat) (l : List Int), i = .int .i64 (k : Int) ∧ v = .slice A' l.length c' ∧ wr.ownsRow base 5 1 (.slice A' l.length c') l.length (nums .u8 l) ∧ Below base w wr ∧ l ++ put k = xs ++ put n ∧ (k : Int) ≤ 9223372036854775807 ∧ KeepsB 5 w wr) (fun _ i _ => (intOf i).toNat)
  case atStart =>
    subst hml
    exact ⟨n, A, c, xs, rfl, rfl, hown, Below.refl _ _, rfl, hn, KeepsB.refl _ _⟩
  case round =>
    obtain ⟨k, A', c', l, rfl, rfl, hown', hbl, HL, hk, hkp⟩ := hrel
    have hle := put_left HL hn
    have H := Lib.hid HL
    have HM := Lib.hid hml
    have HK := Lib.hid hkp
    have hle' : l.length ≤ 16777300 := by omega
    clear HL hml hle hown hkp
    by_cases hlt : 128 ≤ k
    · have HX := Lib.hid (nums_snoc_low l k)
      go_wp2_with (at_builtin; refine wpList_push2 wr _ rfl _ _ _ rfl base 5 i0 _ 1 1 Try.underlying29 hi0 hz0 hz1 hz2 rfl (by omega) _ _ _ rfl hown' [.int .u8 (bits .or .u8 ((k : Int) % 256) 128)] rfl rfl rfl (one_int _ _) (by unfold maxLen; omega) (by omega) (Nat.le_trans hbase hbl.size) ?_; intro A2 c2 w2 hown2 hb2 hk2)
      go_roundw
      case rel =>
        rw [HX.out] at hown2
        have hl2 := own_nums hown2
        exact ⟨k / 128, A2, c2, l ++ [((k % 128 + 128 : Nat) : Int)], by go_num, by rw [hl2], own_nums' hown2, hbl.trans hb2, by rw [← H.out, put_great hlt]; simp, by omega, HK.out.trans hk2⟩
      case measure => simp [intOf]; omega
    · have HX := Lib.hid (nums_snoc_last l k)
      go_wp2_with (at_builtin; refine wpList_push2 wr _ rfl _ _ _ rfl base 5 i0 _ 1 1 Try.underlying29 hi0 hz0 hz1 hz2 rfl (by omega) _ _ _ rfl hown' [.int .u8 (k : Int)] rfl rfl rfl (one_int _ _) (by unfold maxLen; omega) (by omega) (Nat.le_trans hbase hbl.size) ?_; intro A2 c2 w2 hown2 hb2 hk2)
      go_ret
      rw [HX.out] at hown2
      have hl2 := own_nums hown2
      have e : l ++ [(k : Int)] = xs ++ put n := by rw [← H.out, put_small (by omega)]
      exact ⟨A2, c2, by rw [← e, ← hl2]; rfl, by rw [← e]; exact own_nums' hown2, hbl.trans hb2, HK.out.trans hk2⟩
theorem put_keep_i (base : Nat) (A : Option Addr) (m c : Nat) (xs : List Int) (n : Int) (w : World) (hown : w.ownsRow base 5 1 (.slice A m c) m (nums .u8 xs)) (hbase : base ≤ w.heap.size) (hm : m ≤ 16777216) (h0 : 0 ≤ n) (hn : n ≤ 9223372036854775807) :
    Calls Try.prog 47 #[.slice A m c, .int .i64 n] w (GivesKeep base w (xs ++ putI n)) := by
  obtain ⟨k, rfl⟩ := Int.eq_ofNat_of_zero_le h0
  have := put_keep base A m c xs k w hown hbase hm hn
  unfold putI
  rw [Int.toNat_natCast]
  exact this

theorem putI_nine {n : Int} (h0 : 0 ≤ n) (h : n ≤ 9223372036854775807) : (putI n).length ≤ 9 := put_nine (by omega)
theorem encL_take (l : List Int) (k : Nat) (h : k < l.length) : encL (l.take k) ++ putI (l.getD k 0) = encL (l.take (k + 1)) := by
  induction l generalizing k with
  | nil => simp at h
  | cons x l ih =>
    cases k with
    | zero => simp [encL]
    | succ k =>
      simp only [List.take_succ_cons, encL, List.append_assoc]
      rw [List.getD_cons_succ, ih k (by simpa using h)]
theorem encL_len {l : List Int} (h : ∀ x ∈ l, 0 ≤ x ∧ x ≤ 9223372036854775807) : (encL l).length ≤ 9 * l.length := by
  induction l with
  | nil => simp [encL]
  | cons x l ih =>
    have h1 := h x (List.mem_cons_self ..)
    have h2 := putI_nine h1.1 h1.2
    have h3 := ih (fun y hy => h y (List.mem_cons_of_mem _ hy))
    simp only [encL, List.length_append, List.length_cons]
    omega
theorem getD_in {l : List Int} {P : Int → Prop} (h : ∀ x ∈ l, P x) {k : Nat} (hk : k < l.length) : P (l.getD k 0) := by
  have : l.getD k 0 = l[k] := by simp [List.getD, hk]
  rw [this]; exact h _ (List.getElem_mem hk)

set_option maxHeartbeats 800000 in
set_option maxRecDepth 20000 in
theorem cmd_list (base : Nat) (A : Option Addr) (m c : Nat) (xs : List Int) (A2 : Option Addr) (n c2 : Nat) (us : List Int) (w : World) (hown : w.ownsRow base 5 1 (.slice A m c) m (nums .u8 xs)) (hbase : base ≤ w.heap.size) (hm : m ≤ 1000000)
    (hr : Reads w base 1 A2 n (nums .i64 us)) (hu : ∀ x ∈ us, 0 ≤ x ∧ x ≤ 9223372036854775807) (hn : n ≤ 100) :
    Calls Try.prog 49 #[.slice A m c, .slice A2 n c2] w (GivesKeep base w (xs ++ encU us)) := by
  have hll : us.length = n := by have := hr.1; simpa [nums] using this
  have hml : xs.length = m := by have := hown.1; simpa [nums] using this
  have P1 := Lib.hid (put_keep_i base A m c xs (n : Int) w hown hbase (by omega) (by omega) (by omega))
  have hp9 := putI_nine (n := (n : Int)) (by omega) (by omega)
  have HU : Hid (xs ++ encU us = (xs ++ putI (n : Int)) ++ encL us) := by
    show _ = _
    unfold encU putI
    rw [hll, Int.toNat_natCast, List.append_assoc]
  have HLL := Lib.hid hll
  have HML := Lib.hid hml
  have HB := Lib.hid hu
  clear hu hll hml
  go_enter Try.func49, Try.ntmps49
  go_wp2_with fail
  refine Calls.mono P1.out ?_
  rintro e w1 ⟨A1, c1, rfl, hown1, hb1, hk1⟩
  have hlen1 : (xs ++ putI (n : Int)).length ≤ 1000009 := by have := HML.out; simp; omega
  generalize xs ++ putI (n : Int) = zs at *
  clear P1 hown
  go_wp2_with fail
  go_loopw [0, 6, 13] (fun v _ i wr => ∃ (k : Nat) (A' : Option Addr) (c' : Nat), k ≤ n ∧ i = .int .i64 (k : Int) ∧ v = .slice A' (zs ++ encL (us.take k)).length c' ∧ wr.ownsRow base 5 1 (.slice A' (zs ++ encL (us.take k)).length c') (zs ++ encL (us.take k)).length (nums .u8 (zs ++ encL (us.take k))) ∧ Below base w wr ∧ KeepsB 5 w wr) (fun _ _ i _ => n - (intOf i).toNat)
  case atStart => exact ⟨0, A1, c1, Nat.zero_le _, rfl, by simp [encL], by simpa [encL] using hown1, hb1, hk1⟩
  case round =>
    obtain ⟨k, A', c', hk, rfl, rfl, hown', hbl, hkp⟩ := hrel
    have HK := Lib.hid hkp
    clear hkp hk1 hown1
    by_cases hlt : k < n
    · obtain ⟨_, b, o, rfl, hbb, hc⟩ := (hr.below hbl).num hlt
      have hx := getD_in HB.out (k := k) (by rw [HLL.out]; exact hlt)
      have hen : (zs ++ encL (us.take k)).length ≤ 1001000 := by
        have := encL_len (l := us.take k) (fun x hx => HB.out x (List.mem_of_mem_take hx))
        have h2 : (us.take k).length ≤ n := by rw [List.length_take, HLL.out]; omega
        simp only [List.length_append]; omega
      have HE : Hid ((zs ++ encL (us.take k)) ++ putI (us.getD k 0) = zs ++ encL (us.take (k + 1))) := by
        show _ = _
        rw [List.append_assoc, encL_take us k (by rw [HLL.out]; exact hlt)]
      generalize us.getD k 0 = x at *
      obtain ⟨hx0, hx1⟩ := hx
      have P2 := Lib.hid (put_keep_i base A' _ c' _ x wr hown' (Nat.le_trans hbase hbl.size) (by omega) hx0 hx1)
      rw [HE.out] at P2
      generalize (zs ++ encL (us.take k)).length = q at *
      clear hown'
      go_wp2_with fail
      refine Calls.mono P2.out ?_
      rintro e w2 ⟨A3, c3, rfl, hown3, hb3, hk3⟩
      go_wp2_with fail
      go_roundw
      case rel => exact ⟨k + 1, A3, c3, by omega, by go_num, by rw [List.length_append], hown3, hbl.trans hb3, HK.out.trans hk3⟩
      case measure => simp [intOf]; omega
    · obtain rfl : k = n := by omega
      have HT : Hid (zs ++ encL (us.take k) = xs ++ encU us) := by
        show _ = _
        rw [HU.out, List.take_of_length_le (by rw [HLL.out]; exact Nat.le_refl _)]
      rw [HT.out] at hown' ⊢
      go_wp2_with fail
      go_ret
      exact ⟨A', c', rfl, hown', hbl, HK.out⟩

/-- The written bytes stand in a captured variable, at block B; their row lies from 'base' on. -/
def LayS (base B : Nat) (xs : List Int) (w : World) : Prop := ∃ (A : Option Addr) (c : Nat), Blk w B #[.slice A xs.length c] 29 ∧ w.ownsRow base 5 1 (.slice A xs.length c) xs.length (nums .u8 xs)
/-- What a writing step turns: the variable at B, bytes from 'base' on. -/
structure LayR (base B : Nat) (w w' : World) : Prop where
  os : w'.os = w.os
  tape : w'.tape = w.tape
  output : w'.output = w.output
  size : w.heap.size ≤ w'.heap.size
  block : ∀ k, k < base → k ≠ B → w'.heap[k]? = w.heap[k]?
  keep : ∀ (b : Nat) (cs : Array Value) (t : TypeId), t ≠ 5 → b ≠ B → Blk w b cs t → Blk w' b cs t
section
variable {base B : Nat} {w w1 w' : World}
theorem LayR.refl (base B : Nat) (w : World) : LayR base B w w := ⟨rfl, rfl, rfl, Nat.le_refl _, fun _ _ _ => rfl, fun _ _ _ _ _ h => h⟩
theorem LayR.trans (h : LayR base B w w1) (k : LayR base B w1 w') : LayR base B w w' :=
  ⟨k.os.trans h.os, k.tape.trans h.tape, k.output.trans h.output, Nat.le_trans h.size k.size, fun j hj hb => (k.block j hj hb).trans (h.block j hj hb), fun b cs t ht hb hk => k.keep b cs t ht hb (h.keep b cs t ht hb hk)⟩
theorem LayR.step (h : LayR base B w w1) (hb : Below base w1 w') (hk : KeepsB 5 w1 w') : LayR base B w w' :=
  ⟨hb.os.trans h.os, hb.tape.trans h.tape, hb.output.trans h.output, Nat.le_trans h.size hb.size, fun j hj hn => (hb.block j hj).trans (h.block j hj hn), fun b cs t ht hn hc => hk b cs t ht (h.keep b cs t ht hn hc)⟩
theorem LayR.store (h : LayR base B w w1) (u : Value) : LayR base B w (w1.setCell ⟨B, 0, none⟩ u) :=
  ⟨h.os, h.tape, h.output, by simpa using h.size, fun j hj hn => (Below.heap_setCell _ _ _ _ hn).trans (h.block j hj hn), fun b cs t ht hn hc => (h.keep b cs t ht hn hc).other hn u⟩
theorem LayR.alloc (h : LayR base B w w1) (hB : base ≤ w1.heap.size) (o : Obj) : LayR base B w (w1.alloc o) :=
  ⟨h.os, h.tape, h.output, by have := h.size; simp; omega, fun j hj hn => (Below.heap_alloc _ _ _ (by omega)).trans (h.block j hj hn), fun b cs t ht hn hc => (h.keep b cs t ht hn hc).alloc _⟩
theorem LayS.alloc {xs : List Int} (h : LayS base B xs w) (o : Obj) : LayS base B xs (w.alloc o) := by
  obtain ⟨A, c, h1, h2⟩ := h
  exact ⟨A, c, h1.alloc o, h2.alloc o⟩
theorem lay_store {xs : List Int} {A : Option Addr} {c : Nat} {u : Value} (hb : Blk w B #[u] 29) (hown : w.ownsRow base 5 1 (.slice A xs.length c) xs.length (nums .u8 xs)) (hB : B < base) : LayS base B xs (w.setCell ⟨B, 0, none⟩ (.slice A xs.length c)) :=
  ⟨A, c, hb.set 0 _, own_low hown (by exact hB) _⟩
end

set_option maxHeartbeats 800000 in
set_option maxRecDepth 20000 in
theorem lay_put (base B L n : Nat) (xs us : List Int) (w : World) (hS : LayS base B xs w) (hB : B < base) (hbase : base ≤ w.heap.size) (hm : xs.length ≤ 1000000)
    (hL : Blk w L (us.map (Value.int .i64)).toArray 3) (hLB : L ≠ B) (hll : us.length = n) (hu : ∀ x ∈ us, 0 ≤ x ∧ x ≤ 9223372036854775807) (hn : n ≤ 100) :
    Calls Try.prog 46 #[.slice (some ⟨L, 0, none⟩) n n, .pointer (some ⟨B, 0, none⟩)] w fun e w' => e = .returned (.tuple #[]) ∧ LayS base B (xs ++ encL us) w' ∧ LayR base B w w' := by
  have HLL := Lib.hid hll
  have HB := Lib.hid hu
  have hL0 := hL
  clear hll hu
  go_enter Try.func46, Try.ntmps46
  go_wp2_with fail
  go_loopw [4, 7] (fun _ i wr => ∃ (k : Nat), k ≤ n ∧ i = .int .i64 (k : Int) ∧ LayS base B (xs ++ encL (us.take k)) wr ∧ LayR base B w wr) (fun _ i _ => n - (intOf i).toNat)
  case atStart => exact ⟨0, Nat.zero_le _, rfl, by simpa [encL] using hS, LayR.refl _ _ _⟩
  case round =>
    obtain ⟨k, hk, rfl, hS', hR⟩ := hrel
    clear hS hL0
    by_cases hlt : k < n
    · have hLk := hR.keep L _ _ (by decide) hLB hL
      have hx := getD_in HB.out (k := k) (by rw [HLL.out]; exact hlt)
      have hcx : wr.cell? ⟨L, k, none⟩ = some (.int .i64 (us.getD k 0)) := hLk.cell (by simp [List.getD, HLL.out, hlt])
      have hen : (xs ++ encL (us.take k)).length ≤ 1001000 := by
        have := encL_len (l := us.take k) (fun x hx => HB.out x (List.mem_of_mem_take hx))
        have h2 : (us.take k).length ≤ n := by rw [List.length_take, HLL.out]; omega
        simp only [List.length_append]; omega
      have HE : Hid ((xs ++ encL (us.take k)) ++ putI (us.getD k 0) = xs ++ encL (us.take (k + 1))) := by
        show _ = _
        rw [List.append_assoc, encL_take us k (by rw [HLL.out]; exact hlt)]
      generalize us.getD k 0 = x at *
      obtain ⟨hx0, hx1⟩ := hx
      obtain ⟨A', c', hb, hown⟩ := hS'
      have P2 := Lib.hid (put_keep_i base A' _ c' _ x wr hown (Nat.le_trans hbase hR.size) (by omega) hx0 hx1)
      rw [HE.out] at P2
      have kc := hb.cell (i := 0) rfl
      generalize (xs ++ encL (us.take k)).length = q at *
      clear hown hLk
      have HBk := Lib.hid hb
      have HR := Lib.hid hR
      clear hb hR hL
      go_wp2_with fail
      refine Calls.mono P2.out ?_
      rintro e w2 ⟨A3, c3, rfl, hown3, hb3, hk3⟩
      have hbk2 : Blk w2 B #[_] 29 := hk3 B _ _ (by decide) HBk.out
      have kc2 := hbk2.cell (i := 0) rfl
      have kf2 := hbk2.free 0
      have HS3 := Lib.hid (lay_store hbk2 hown3 hB)
      have HR3 := Lib.hid ((HR.out.step hb3 hk3).store (.slice A3 (xs ++ encL (us.take (k + 1))).length c3))
      clear hown3 hb3 hk3 hbk2
      go_wp2_with fail
      go_roundw
      case rel =>
        refine ⟨k + 1, by omega, by go_num, ?_, ?_⟩
        · have := HS3.out; rw [List.length_append] at this; exact this
        · have := HR3.out; rw [List.length_append] at this; exact this
      case measure => simp [intOf]; omega
    · obtain rfl : k = n := by omega
      have HT : Hid (encL (us.take k) = encL us) := by
        show _ = _
        rw [List.take_of_length_le (by rw [HLL.out]; exact Nat.le_refl _)]
      rw [HT.out] at hS'
      have HS := Lib.hid hS'
      have HR := Lib.hid hR
      clear hS' hR hL
      go_wp2_with fail
      go_end0
      exact ⟨rfl, HS.out, HR.out⟩
end Go.Proofs.Ytneigplmgellcaa
