/- Do a building's tiles bear it? -/
import Derived.Test.YtfgjiaakoacomaaBuildTiles
namespace Go.Proofs.Ytfgjiaakoacomaa
set_option maxRecDepth 20000
open Go.RowKit

set_option maxHeartbeats 800000 in
set_option maxRecDepth 20000 in
theorem firm_ask (W H : Int) (A : Option Addr) (n c B g : Nat) (ts : List Int) (t : Nat) (w : World) (hG : Blk w g #[.int .i64 W, .int .i64 H, .slice A n c] 24) (hr : Reads w B 1 A n (nums .u8 ts)) (ht : t < n) :
    Calls Try.prog 81 #[.int .i64 (t : Int), .pointer (some ⟨g, 0, none⟩)] w fun e w' => e = .returned (.bool (decide (1 < ts.getD t 0))) ∧ w = w' := by
  obtain ⟨_, b, o, rfl, hb, hc⟩ := hr.num ht
  have x2 := hG.cell (i := 2) rfl
  generalize ts.getD t 0 = v at *
  go_enter Try.func81, Try.ntmps81
  go_wp2_with fail
  go_ret
  exact ⟨rfl, rfl⟩

theorem all_take {ts l : List Int} {k : Nat} (hk : k < l.length) : (∀ z ∈ l.take (k + 1), ts.getD z.toNat 0 ≤ 1) ↔ (∀ z ∈ l.take k, ts.getD z.toNat 0 ≤ 1) ∧ ts.getD (l.getD k 0).toNat 0 ≤ 1 := by
  rw [List.take_succ_eq_append_getElem hk]
  simp only [List.mem_append, List.mem_singleton, List.getD, List.getElem?_eq_getElem hk, Option.getD_some]
  exact ⟨fun h => ⟨fun z hz => h z (.inl hz), h _ (.inr rfl)⟩, fun h z hz => hz.elim (h.1 z) fun e => e ▸ h.2⟩

set_option maxHeartbeats 800000 in
set_option maxRecDepth 20000 in
theorem firm_index (W H : Int) (A : Option Addr) (n c B g : Nat) (ts : List Int) (A1 : Option Addr) (m c1 B1 : Nat) (l : List Int) (w : World) (hG : Blk w g #[.int .i64 W, .int .i64 H, .slice A n c] 24) (hr : Reads w B 1 A n (nums .u8 ts))
    (hr1 : Reads w B1 1 A1 m (nums .i64 l)) (hm : m ≤ 16) (hl : ∀ x ∈ l, 0 ≤ x ∧ x < n) :
    Calls Try.prog 84 #[.slice A1 m c1, .func (Fn.func 81) #[] #[.pointer (some ⟨g, 0, none⟩)]] w fun e w' => (∃ v : Int, e = .returned (.int .i64 v) ∧ (0 ≤ v ↔ ¬ ∀ z ∈ l, ts.getD z.toNat 0 ≤ 1)) ∧ w = w' := by
  have hll : l.length = m := by have := hr1.1; simpa [nums] using this
  go_enter Try.func84, Try.ntmps84
  go_wp2_with fail
  go_loopw [8] (fun i wr => ∃ (k : Nat), k ≤ m ∧ i = .int .i64 k ∧ (∀ z ∈ l.take k, ts.getD z.toNat 0 ≤ 1) ∧ w = wr) (fun i _ => m - (intOf i).toNat)
  case atStart => exact ⟨0, Nat.zero_le _, rfl, by simp, rfl⟩
  case round =>
    obtain ⟨k, hk, rfl, hall, rfl⟩ := hrel
    by_cases hlt : k < m
    case neg =>
      obtain rfl : k = m := by omega
      rw [List.take_of_length_le (by omega)] at hall
      replace hall := Lib.hid hall
      clear hll hl
      go_wp2_with fail
      go_ret
      exact ⟨⟨-1, rfl, ⟨fun h => by omega, fun h => absurd hall.out h⟩⟩, rfl⟩
    obtain ⟨_, b, o, rfl, hb, hc⟩ := hr1.num hlt
    have hz := hl (l.getD k 0) (by simp only [List.getD, List.getElem?_eq_getElem (show k < l.length by omega), Option.getD_some]; exact List.getElem_mem _)
    have ht := Lib.hid (all_take (ts := ts) (l := l) (k := k) (by omega))
    have hmem : l.getD k 0 ∈ l := by simp only [List.getD, List.getElem?_eq_getElem (show k < l.length by omega), Option.getD_some]; exact List.getElem_mem _
    have HM := Lib.hid hmem
    generalize l.getD k 0 = z at *
    obtain ⟨q, rfl⟩ := Int.eq_ofNat_of_zero_le hz.1
    have C := Lib.hid (firm_ask W H A n c B g ts q w hG hr (by omega))
    rw [Int.toNat_natCast] at ht
    have hq : (ts.getD ((q : Int)).toNat 0) = ts.getD q 0 := rfl
    generalize hv : ts.getD q 0 = v at *
    by_cases hv1 : 1 < v
    · have d1 : decide (1 < v) = true := by simpa using hv1
      have HV := Lib.hid (show ¬ ∀ z ∈ l, ts.getD z.toNat 0 ≤ 1 from fun h => by have := h _ HM.out; rw [hq] at this; omega)
      rw [d1] at C
      clear hall hll hl hq hv hmem
      go_wp2_with fail
      refine Calls.mono C.out ?_
      rintro e w2 ⟨rfl, rfl⟩
      go_wp2_with fail
      go_ret
      exact ⟨⟨k, rfl, ⟨fun _ => HV.out, fun _ => by omega⟩⟩, rfl⟩
    · have d1 : decide (1 < v) = false := by simpa using hv1
      rw [d1] at C
      have HA := Lib.hid (ht.out.2 ⟨hall, by omega⟩)
      clear hall hq hv hmem ht
      go_wp2_with fail
      refine Calls.mono C.out ?_
      rintro e w2 ⟨rfl, rfl⟩
      go_wp2_with fail
      go_roundw
      case rel => exact ⟨k + 1, by omega, by go_num, HA.out, trivial⟩
      case measure => simp [intOf]; omega

set_option maxHeartbeats 800000 in
set_option maxRecDepth 20000 in
theorem firm_contains (W H : Int) (A : Option Addr) (n c B g : Nat) (ts : List Int) (A1 : Option Addr) (m c1 B1 : Nat) (l : List Int) (w : World) (hG : Blk w g #[.int .i64 W, .int .i64 H, .slice A n c] 24) (hr : Reads w B 1 A n (nums .u8 ts))
    (hr1 : Reads w B1 1 A1 m (nums .i64 l)) (hm : m ≤ 16) (hl : ∀ x ∈ l, 0 ≤ x ∧ x < n) :
    Calls Try.prog 80 #[.slice A1 m c1, .func (Fn.func 81) #[] #[.pointer (some ⟨g, 0, none⟩)]] w fun e w' => e = .returned (.bool (!decide (∀ z ∈ l, ts.getD z.toNat 0 ≤ 1))) ∧ w = w' := by
  have C := Lib.hid (firm_index W H A n c B g ts A1 m c1 B1 l w hG hr hr1 hm hl)
  generalize hd' : decide (∀ z ∈ l, ts.getD z.toNat 0 ≤ 1) = d
  have hd := Lib.hid hd'
  clear hd'
  go_enter Try.func80, Try.ntmps80
  go_wp2_with fail
  refine Calls.mono C.out ?_
  rintro e w2 ⟨⟨v, rfl, hv⟩, rfl⟩
  replace hv := Lib.hid hv
  cases d with
  | true =>
    have h0 : decide (0 ≤ v) = false := by have := of_decide_eq_true hd.out; have h2 := hv.out; simp only [decide_eq_false_iff_not]; exact fun h => (h2.1 h) this
    clear hd
    go_wp2_with fail
    go_ret
    exact ⟨rfl, rfl⟩
  | false =>
    have h0 : decide (0 ≤ v) = true := by have := of_decide_eq_false hd.out; have h2 := hv.out; simp only [decide_eq_true_eq]; exact h2.2 this
    clear hd
    go_wp2_with fail
    go_ret
    exact ⟨rfl, rfl⟩

set_option maxHeartbeats 800000 in
set_option maxRecDepth 20000 in
theorem build_firm (W H id ow x y bw bh : Int) (A : Option Addr) (n c B : Nat) (ts : List Int) (w : World) (hr : Reads w B 1 A n (nums .u8 ts)) (hB : B ≤ w.heap.size) (_hn : n ≤ 16384) (hW0 : 1 ≤ W) (hW1 : W ≤ 128) (hb0 : 1 ≤ bw) (hb1 : bw ≤ 4) (hb2 : 1 ≤ bh) (hb3 : bh ≤ 4) (hx0 : 0 ≤ x) (hx1 : x ≤ 128) (hy0 : 0 ≤ y) (hy1 : y ≤ 128)
    (hl : ∀ z ∈ tilesL W x y bw bh, 0 ≤ z ∧ z < n) :
    Calls Try.prog 74 #[.agg #[.int .i64 W, .int .i64 H, .slice A n c], .agg #[.int .i64 id, .int .i64 ow, .int .i64 x, .int .i64 y, .int .i64 bw, .int .i64 bh]] w fun e w' => e = .returned (.bool (decide (∀ z ∈ tilesL W x y bw bh, ts.getD z.toNat 0 ≤ 1))) ∧ Below w.heap.size w w' := by
  have C := Lib.hid (fun W' => build_tiles W H id ow x y bw bh A n c W' hW0 hW1 hb0 hb1 hb2 hb3 hx0 hx1 hy0 hy1)
  have hlen : (tilesL W x y bw bh).length ≤ 16 := by
    unfold tilesL
    rw [tilesR_len]
    exact Nat.mul_le_mul (show bh.toNat ≤ 4 by omega) (show bw.toNat ≤ 4 by omega)
  have hG := (Blk.new w #[.int .i64 W, .int .i64 H, .slice A n c] 24).alloc (.cells #[.int .i64 id, .int .i64 ow, .int .i64 x, .int .i64 y, .int .i64 bw, .int .i64 bh] 76)
  have hb := two_boxes w (.cells #[.int .i64 W, .int .i64 H, .slice A n c] 24) (.cells #[.int .i64 id, .int .i64 ow, .int .i64 x, .int .i64 y, .int .i64 bw, .int .i64 bh] 76)
  generalize hT : tilesL W x y bw bh = l at *
  generalize hd' : decide (∀ z ∈ l, ts.getD z.toNat 0 ≤ 1) = d
  have hd := Lib.hid hd'
  clear hd'
  go_enter Try.func74, Try.ntmps74
  go_wp2_with fail
  generalize (w.alloc (.cells #[.int .i64 W, .int .i64 H, .slice A n c] 24)).alloc (.cells #[.int .i64 id, .int .i64 ow, .int .i64 x, .int .i64 y, .int .i64 bw, .int .i64 bh] 76) = w1 at *
  refine Calls.mono (C.out _) ?_
  rintro e w2 ⟨A1, c1, rfl, hown, hb2'⟩
  clear C
  have hG2 := hG.below hb2' hG.lt
  have hr2 := hr.below ((hb.trans (hb2'.mono hb.size)).mono hB)
  have HB := Lib.hid (hb.trans (hb2'.mono hb.size))
  have D := firm_contains W H A n c B w.heap.size ts A1 l.length c1 _ l w2 hG2 hr2 (Reads.of_own hown) hlen hl
  rw [hd.out] at D
  replace D := Lib.hid D
  clear hown hG hb hb2' hr2 hG2
  go_wp2_with fail
  refine Calls.mono D.out ?_
  rintro e w3 ⟨rfl, rfl⟩
  cases d
  all_goals
    go_wp2_with fail
    go_ret
    exact ⟨rfl, HB.out⟩
end Go.Proofs.Ytfgjiaakoacomaa
