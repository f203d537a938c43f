/- A map's bytes: the game's and the page's. -/
import Derived.Test.YtdcilabbjejklaaMapLay
namespace Go.Proofs.Ytdcilabbjejklaa
set_option maxRecDepth 20000
open Go.RowKit

theorem okG_of {W H : Int} {ts : List Int} (h : isG W H ts = true) : okG W H ts := by
  have := of_decide_eq_true h
  exact ⟨⟨this.1, this.2.1⟩, ⟨this.2.2.1, this.2.2.2.1⟩, this.2.2.2.2.1, this.2.2.2.2.2⟩
theorem isG_of {W H : Int} {ts : List Int} (h : okG W H ts) : isG W H ts = true := decide_eq_true ⟨h.1.1, h.1.2, h.2.1.1, h.2.1.2, h.2.2.1, h.2.2.2⟩
theorem okG_len {W H : Int} {ts : List Int} (h : okG W H ts) : ts.length ≤ 16384 := by
  have := prod_range h.1.1 h.1.2 h.2.1.1 h.2.1.2
  have := h.2.2.1
  omega
theorem IsBytes.app {l m : List Int} (h : IsBytes l) (k : IsBytes m) : IsBytes (l ++ m) := fun x hx => (List.mem_append.1 hx).elim (h x) (k x)
theorem head_bytes (W H : Int) {ts : List Int} (h : IsBytes ts) : IsBytes (headG W H ts) :=
  IsBytes.app (fun x hx => by simp at hx; omega) (IsBytes.app (fun x hx => put_bytes _ x hx) (IsBytes.app (fun x hx => put_bytes _ x hx) h))
theorem enc_bytes (W H : Int) {ts : List Int} (h : IsBytes ts) : IsBytes (encG W H ts) := IsBytes.app (head_bytes W H h) (eightL_bytes 8 _)
theorem head_len {W H : Int} {ts : List Int} (h : okG W H ts) : (headG W H ts).length ≤ 20 + ts.length := by
  have a := putI_9 (n := W) (by have := h.1; omega) (by have := h.1; omega)
  have b := putI_9 (n := H) (by have := h.2.1; omega) (by have := h.2.1; omega)
  simp [headG]; omega
theorem enc_len {W H : Int} {ts : List Int} (h : okG W H ts) : (encG W H ts).length ≤ 28 + ts.length := by
  have := head_len h
  simp [encG, eight_len]; omega

def Gives2 (base : Nat) (w : World) (l : List Int) (x : Int) (e : Ending) (w' : World) : Prop :=
  ∃ A c, e = .returned (.tuple #[.slice A l.length c, .int .i64 x]) ∧ w'.ownsRow base 5 1 (.slice A l.length c) l.length (nums .u8 l) ∧ Below base w w'

theorem map_bytes_no (W H : Int) (A : Option Addr) (n c B : Nat) (ts : List Int) (w : World) (hr : Reads w B 1 A n (nums .u8 ts)) (hB : B ≤ w.heap.size) (hl : IsBytes ts) (hg : isG W H ts = false) :
    Calls Try.prog 41 #[.agg #[.int .i64 W, .int .i64 H, .slice A n c]] w fun e w' => e = .returned (.tuple #[.slice none 0 0, .int .i64 1]) ∧ Below w.heap.size w w' := by
  have M := Lib.hid (fun W' (hr : Reads W' W'.heap.size 1 A n (nums .u8 ts)) => ground_may W H A n c _ ts W' hr (Nat.le_refl _) hl)
  have hr' := (hr.alloc hB (.cells #[.int .i64 W, .int .i64 H, .slice A n c] 39)).more (Nat.le_trans hB (show w.heap.size ≤ (w.alloc (.cells #[.int .i64 W, .int .i64 H, .slice A n c] 39)).heap.size by simp))
  rw [hg] at M
  clear hg
  go_enter Try.func41, Try.ntmps41
  go_wp2_with fail
  refine Calls.mono (M.out _ hr') ?_
  rintro e w1 ⟨rfl, hb1⟩
  go_wp2_with fail
  go_ret2
  exact ⟨rfl, ((Below.refl _ _).alloc (Nat.le_refl _) _).trans (hb1.mono (by simp))⟩

set_option maxHeartbeats 800000 in
theorem map_bytes (W H : Int) (A : Option Addr) (n c B : Nat) (ts : List Int) (w : World) (hr : Reads w B 1 A n (nums .u8 ts)) (hB : B ≤ w.heap.size) (hl : IsBytes ts) (hg : isG W H ts = true) :
    Calls Try.prog 41 #[.agg #[.int .i64 W, .int .i64 H, .slice A n c]] w (Gives2 w.heap.size w (encG W H ts) 0) := by
  have ok := okG_of hg
  have hll : ts.length = n := by have := hr.1; simpa [nums] using this
  have hn := okG_len ok
  have hbG := head_bytes W H hl
  have hlG := head_len ok
  have M := Lib.hid (fun W' (hr : Reads W' W'.heap.size 1 A n (nums .u8 ts)) => ground_may W H A n c _ ts W' hr (Nat.le_refl _) hl)
  obtain ⟨⟨g1, g2⟩, ⟨g3, g4⟩, _⟩ := ok
  have L := Lib.hid (fun W' (hr : Reads W' W'.heap.size 1 A n (nums .u8 ts)) => map_lay A n c _ W H ts W' hr (Nat.le_refl _) (by omega) (by omega) g2 (by omega) g4 hbG (by omega))
  have hr' := (hr.alloc hB (.cells #[.int .i64 W, .int .i64 H, .slice A n c] 39)).more (Nat.le_trans hB (show w.heap.size ≤ (w.alloc (.cells #[.int .i64 W, .int .i64 H, .slice A n c] 39)).heap.size by simp))
  have hX := Blk.new w #[.int .i64 W, .int .i64 H, .slice A n c] 39
  have hb : Below w.heap.size w (w.alloc (.cells #[.int .i64 W, .int .i64 H, .slice A n c] 39)) := (Below.refl _ _).alloc (Nat.le_refl _) _
  rw [hg] at M
  clear hg hll hn hbG hlG
  go_enter Try.func41, Try.ntmps41
  go_wp2_with fail
  refine Calls.mono (M.out _ hr') ?_
  rintro e w1 ⟨rfl, hb1⟩
  have hr1 := (hr'.below hb1).more hb1.size
  have hx := hX.below hb1 hX.lt
  have x0 := hx.cell (i := 0) rfl
  have x1 := hx.cell (i := 1) rfl
  have x2 := hx.cell (i := 2) rfl
  have HB := Lib.hid (hb.trans (hb1.mono (by simp)))
  clear M hr' hX hb hb1 hx
  go_wp2_with fail
  refine Calls.mono (L.out _ hr1) ?_
  rintro e w2 ⟨A2, c2, rfl, hO, hb2⟩
  go_wp2_with fail
  go_ret2
  exact ⟨A2, c2, rfl, own_mono hO HB.out.size, HB.out.trans (hb2.mono HB.out.size)⟩

set_option maxHeartbeats 1600000 in
set_option maxRecDepth 20000 in
theorem ref_mapbytes (W H : Int) (A : Option Addr) (n c B : Nat) (ts : List Int) (w : World) (hr : Reads w B 1 A n (nums .u8 ts)) (hB : B ≤ w.heap.size) (hl : IsBytes ts) (ok : okG W H ts) :
    Calls Try.prog 44 #[.agg #[.int .i64 W, .int .i64 H, .slice A n c]] w (GivesBytes w.heap.size w (encG W H ts)) := by
  obtain ⟨i0, hi0, hy0, hy1, hy2⟩ := info_parts info_u8
  have hll : ts.length = n := by have := hr.1; simpa [nums] using this
  have hn := okG_len ok
  have hbG := head_bytes W H hl
  have hlG := head_len ok
  obtain ⟨⟨g1, g2⟩, ⟨g3, g4⟩, _⟩ := ok
  have hX := Blk.new w #[.int .i64 W, .int .i64 H, .slice A n c] 39
  have hb : Below w.heap.size w (w.alloc (.cells #[.int .i64 W, .int .i64 H, .slice A n c] 39)) := (Below.refl _ _).alloc (Nat.le_refl _) _
  have hr0 := (hr.more hB).below hb
  have N1 := Lib.hid (fun w => ref_num_i W w (by omega) (by omega))
  have N2 := Lib.hid (fun w => ref_num_i H w (by omega) (by omega))
  have p1 := putI_9 (n := W) (by omega) (by omega)
  have p2 := putI_9 (n := H) (by omega) (by omega)
  have HZ : Hid ((([84, 71] ++ putI W) ++ putI H) ++ ts = headG W H ts) := by show _ = _; simp [headG]
  have HE : Hid (headG W H ts ++ eight (fsum fstart (headG W H ts)) = encG W H ts) := rfl
  have h8 := eight_len (fsum fstart (headG W H ts))
  have hf := fsum_range fstart (headG W H ts) (by unfold fstart; decide)
  have hs2 : w.heap.size + 1 ≤ (w.alloc (.cells #[.int .i64 W, .int .i64 H, .slice A n c] 39)).heap.size := by simp
  replace hll := Lib.hid hll
  go_enter Try.func44, Try.ntmps44
  go_wp2_with fail
  have hO := World.ownsRow_lit (base := w.heap.size + 1) (size := 1) (e := 5) (w.alloc (.cells #[.int .i64 W, .int .i64 H, .slice A n c] 39)) #[.int .u8 84, .int .u8 71] 2 hs2 (by decide) rfl
  have hX1 := (hX.alloc (.cells #[.int .u8 84, .int .u8 71] 5))
  have HB1 : Below w.heap.size w ((w.alloc (.cells #[.int .i64 W, .int .i64 H, .slice A n c] 39)).alloc (.cells #[.int .u8 84, .int .u8 71] 5)) := hb.alloc (by simp) _
  have hr1 := hr0.alloc (by simp) (.cells #[.int .u8 84, .int .u8 71] 5)
  have hs1 : w.heap.size + 1 ≤ ((w.alloc (.cells #[.int .i64 W, .int .i64 H, .slice A n c] 39)).alloc (.cells #[.int .u8 84, .int .u8 71] 5)).heap.size := by simp
  have e84 : (w.alloc (.cells #[.int .i64 W, .int .i64 H, .slice A n c] 39)).heap.size = w.heap.size + 1 := by simp
  rw [e84] at hO
  clear hX hb hr0 hs2 hr hB e84
  generalize (w.alloc (.cells #[.int .i64 W, .int .i64 H, .slice A n c] 39)).alloc (.cells #[.int .u8 84, .int .u8 71] 5) = w1 at *
  generalize hC : w.heap.size = C at *
  replace hC := Lib.hid hC
  refine Calls.mono (N1.out _) ?_
  rintro e w2 ⟨A2, c2, rfl, hO2, hb2⟩
  have hO1 := own_below hO hb2
  have hR2 := Reads.of_own hO2
  have hs2 := Nat.le_trans hs1 hb2.size
  have hX2 := hX1.below hb2 hX1.lt
  have hr2 := hr1.below (hb2.mono (Nat.le_trans (Nat.le_succ C) hs1))
  replace HB1 := Lib.hid (HB1.trans (hb2.mono (Nat.le_trans (Nat.le_succ C) hs1)))
  have cA : 2 + (putI W).length ≤ maxLen := by unfold maxLen; omega
  have cB : (2 + (putI W).length) * 1 ≤ 140737488355328 := by omega
  clear N1 hO hO2 hb2 hX1 hs1 hr1
  go_wp2_with (at_builtin; refine wpList_append_reads _ rfl (.tmp 4) (.tmp 7) _ rfl (C + 1) 5 i0 _ 1 1 Try.underlying37 hi0 hy0 hy1 hy2 rfl Nat.one_pos _ _ _ rfl hO1 _ _ _ _ _ rfl hR2 (nums_one _ _) cA cB hs2 ?_; intro A3 c3 w3 hO3 hb3; have x1 := (hX2.below hb3 (Nat.lt_succ_self C)).cell (i := 1) rfl)
  have hX3 := hX2.below hb3 (Nat.lt_succ_self C)
  have hr3 := hr2.below (hb3.mono (Nat.le_succ C))
  have hs3 := Nat.le_trans hs2 hb3.size
  rw [show ([.int .u8 84, .int .u8 71] : List Value) = nums .u8 [84, 71] from rfl, ← nums_app] at hO3
  replace HB1 := Lib.hid (HB1.out.trans (hb3.mono (Nat.le_succ C)))
  clear hb3 hX2 hr2 hs2 hR2 hO1 x1 cA cB
  refine Calls.mono (N2.out _) ?_
  rintro e w4 ⟨A4, c4, rfl, hO4, hb4⟩
  have hO3' := own_below hO3 hb4
  have hR4 := Reads.of_own hO4
  have hs4 := Nat.le_trans hs3 hb4.size
  have hX4 := hX3.below hb4 hX3.lt
  have hr4 := hr3.below (hb4.mono (Nat.le_trans (Nat.le_succ C) hs3))
  replace HB1 := Lib.hid (HB1.out.trans (hb4.mono (Nat.le_trans (Nat.le_succ C) hs3)))
  have cA : 2 + (putI W).length + (putI H).length ≤ maxLen := by unfold maxLen; omega
  have cB : (2 + (putI W).length + (putI H).length) * 1 ≤ 140737488355328 := by omega
  have cA2 : 2 + (putI W).length + (putI H).length + n ≤ maxLen := by unfold maxLen; have := hll.out; omega
  have cB2 : (2 + (putI W).length + (putI H).length + n) * 1 ≤ 140737488355328 := by have := hll.out; omega
  clear N2 hO3 hO4 hb4 hX3 hs3 hr3
  go_wp2_with (first
    | (at_builtin; refine wpList_append_reads _ rfl (.tmp 9) (.tmp 12) _ rfl (C + 1) 5 i0 _ 1 1 Try.underlying37 hi0 hy0 hy1 hy2 rfl Nat.one_pos _ _ _ rfl hO3' _ _ _ _ _ rfl hR4 (nums_one _ _) cA cB hs4 ?_; intro A5 c5 w5 hO5 hb5; have x2 := (hX4.below hb5 (Nat.lt_succ_self C)).cell (i := 2) rfl; have hr5 := hr4.below (hb5.mono (Nat.le_succ C)); have hs5 := Nat.le_trans hs4 hb5.size)
    | (at_builtin; refine wpList_append_reads _ rfl (.tmp 14) (.tmp 16) _ rfl (C + 1) 5 i0 _ 1 1 Try.underlying37 hi0 hy0 hy1 hy2 rfl Nat.one_pos _ _ _ rfl hO5 _ _ _ _ _ rfl hr5 (nums_one _ _) cA2 cB2 hs5 ?_; intro A6 c6 w6 hO6 hb6))
  have hs6 := Nat.le_trans hs5 hb6.size
  replace HB1 := Lib.hid ((HB1.out.trans (hb5.mono (Nat.le_succ C))).trans (hb6.mono (Nat.le_succ C)))
  rw [← nums_app, ← nums_app, show ([84, 71] ++ put W.toNat ++ put H.toNat ++ ts : List Int) = headG W H ts from HZ.out] at hO6
  have hl6 := Lib.hid (own_nums hO6)
  clear HZ hO5 hr4 hr5 hb5 hb6 hX4 x2 cA cB cA2 cB2 hR4 hs4 hs5 hO3'
  have HB6 := HB1
  clear HB1
  generalize 2 + (put W.toNat).length + (put H.toNat).length + n = N at *
  generalize headG W H ts = z at *
  have CS := Lib.hid (ref_sum fstart A6 N c6 _ z w6 (Reads.of_own hO6) hbG (by unfold maxLen; have := hll.out; have := hl6.out; omega))
  refine Calls.mono CS.out ?_
  rintro e w7 ⟨rfl, rfl⟩
  clear CS
  have C8 := Lib.hid (ref_eight (fsum fstart z) w6 hf.1 hf.2)
  generalize fsum fstart z = x at *
  go_wp2_with fail
  refine Calls.mono C8.out ?_
  rintro e w8 ⟨A8, c8, rfl, hO8, hb8⟩
  clear C8
  have hO7 := own_below hO6 hb8
  have hs8 := Nat.le_trans hs6 hb8.size
  have hr8 := Reads.of_own hO8
  have cA' : N + (eight x).length ≤ maxLen := by unfold maxLen; have := hll.out; have := hl6.out; omega
  have cB' : (N + (eight x).length) * 1 ≤ 140737488355328 := by have := hll.out; have := hl6.out; omega
  have HB8 := Lib.hid (HB6.out.trans (hb8.mono (Nat.le_trans (Nat.le_succ C) hs6)))
  clear hb8 hO6 hs6 hO8 HB6
  go_wp2_with (at_builtin; refine wpList_append_reads _ rfl (.tmp 18) (.tmp 21) _ rfl (C + 1) 5 i0 _ 1 1 Try.underlying37 hi0 hy0 hy1 hy2 rfl Nat.one_pos _ _ _ rfl hO7 _ _ _ _ _ rfl hr8 (nums_one _ _) cA' cB' hs8 ?_; intro A9 c9 w9 hO9 hb9)
  go_ret
  rw [← nums_app, HE.out] at hO9
  have hl9 := own_nums hO9
  rw [hl9] at hO9
  exact ⟨A9, c9, by rw [hl9]; rfl, own_mono hO9 (Nat.le_succ C), HB8.out.trans (hb9.mono (Nat.le_succ C))⟩
end Go.Proofs.Ytdcilabbjejklaa
