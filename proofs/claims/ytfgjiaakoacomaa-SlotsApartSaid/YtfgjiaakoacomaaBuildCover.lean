/- Which tiles have a building? The game's own way. -/
import Derived.Test.YtfgjiaakoacomaaBuildMay
namespace Go.Proofs.Ytfgjiaakoacomaa
set_option maxRecDepth 20000
open Go.RowKit

def GivesBools (base : Nat) (w : World) (n : Nat) (f : Nat → Bool) (e : Ending) (w' : World) : Prop :=
  ∃ A c, e = .returned (.slice A n c) ∧ w'.ownsRow base 4 1 (.slice A n c) n (bools n f) ∧ Below base w w'

set_option maxHeartbeats 3200000 in
set_option maxRecDepth 20000 in
theorem build_cover (W H : Int) (A : Option Addr) (n c : Nat) (A1 : Option Addr) (n1 c1 : Nat) (l : List Bd) (w : World) (hW0 : 1 ≤ W) (hW1 : W ≤ 128) (hH0 : 1 ≤ H) (hH1 : H ≤ 128) (hn : (n : Int) = W * H) (hv : BdsL w A1 n1 l) (hn1 : n1 ≤ 1000000)
    (hall : ∀ i, i < n1 → formP (bdAt l i) ∧ onP W H (bdAt l i)) :
    Calls Try.prog 60 #[.agg #[.int .i64 W, .int .i64 H, .slice A n c], .slice A1 n1 c1] w (GivesBools w.heap.size w n (fun t => covK W l n1 (t : Int))) := by
  have hp := prod_range hW0 hW1 hH0 hH1
  have hn4 : n ≤ 16384 := by omega
  replace hn := Lib.hid hn
  have hmk : ∀ w, (Instr.makeSlice 39 (.int .i64 (n : Int)) (.int .i64 (n : Int))).run Try.prog w = .ok (.slice (some ⟨w.heap.size, 0, none⟩) n n) (w.alloc (.cells (zrowB n) 4)) := fun w => make_bools n w (by omega)
  have hG := Blk.new w #[.int .i64 W, .int .i64 H, .slice A n c] 24
  have hb := (Below.refl w.heap.size w).alloc (Nat.le_refl _) (.cells #[.int .i64 W, .int .i64 H, .slice A n c] 24)
  have hO := ownb_made (w.alloc (.cells #[.int .i64 W, .int .i64 H, .slice A n c] 24)) n (by omega)
  have hbm := (Below.refl (w.alloc (.cells #[.int .i64 W, .int .i64 H, .slice A n c] 24)).heap.size (w.alloc (.cells #[.int .i64 W, .int .i64 H, .slice A n c] 24))).alloc (Nat.le_refl _) (.cells (zrowB n) 4)
  replace hG := hG.below hbm hG.lt
  replace hb := hb.trans (hbm.mono hb.size)
  rw [show (w.alloc (.cells #[.int .i64 W, .int .i64 H, .slice A n c] 24)).heap.size = w.heap.size + 1 by simp] at hO
  clear hbm
  go_enter Try.func60, Try.ntmps60
  go_wp2_with fail
  generalize (w.alloc (.cells #[.int .i64 W, .int .i64 H, .slice A n c] 24)).alloc (.cells (zrowB n) 4) = w3 at *
  generalize hge : w.heap.size + 1 = g at *
  have hgw : w.heap.size < g := by omega
  clear hge
  rw [bools_congr (g := fun t => covK W l 0 (t : Int)) (fun t _ => by simp [covK])] at hO
  go_loopw [16] (fun i wr => ∃ (k : Nat), k ≤ n1 ∧ i = .int .i64 k ∧ wr.ownsRow g 4 1 (.slice (some ⟨g, 0, none⟩) n n) n (bools n (fun t => covK W l k (t : Int))) ∧ Blk wr w.heap.size #[.int .i64 W, .int .i64 H, .slice A n c] 24 ∧ Below w.heap.size w wr) (fun i _ => n1 - (intOf i).toNat)
  case atStart => exact ⟨0, Nat.zero_le _, rfl, hO, hG, hb⟩
  case round =>
    clear hO hG hb
    obtain ⟨k, hk, rfl, hO, hG, hb⟩ := hrel
    by_cases hlt : k < n1
    case neg =>
      obtain rfl : k = n1 := by omega
      have HB := Lib.hid hb
      have HO := Lib.hid hO
      clear hO hG hall hv hb
      go_wp2_with fail
      go_ret
      exact ⟨_, _, rfl, own_mono HO.out (by omega), HB.out⟩
    obtain ⟨bb, o, rfl, hbb, ⟨k0, k1, k2, k3, k4, k5⟩, q0, q1, q2, q3, q4, q5⟩ := (hv.below hb).2 k hlt
    have hcs := Lib.hid (fun t => covK_succ W l k t)
    obtain ⟨hf, ho⟩ := hall k hlt
    have HALL := Lib.hid hall
    have hbase : w.heap.size ≤ wr.heap.size := hb.size
    generalize hbk : bdAt l k = bd at *
    obtain ⟨id, ow, x, y, bw, bh⟩ := bd
    simp only at k0 k1 k2 k3 k4 k5 q0 q1 q2 q3 q4 q5
    have hX := Blk.new wr #[.int .i64 id, .int .i64 ow, .int .i64 x, .int .i64 y, .int .i64 bw, .int .i64 bh] 76
    have hbX : Below wr.heap.size wr (wr.alloc (.cells #[.int .i64 id, .int .i64 ow, .int .i64 x, .int .i64 y, .int .i64 bw, .int .i64 bh] 76)) := (Below.refl _ _).alloc (Nat.le_refl _) _
    replace hG := hG.below hbX hG.lt
    replace hO := own_below hO hbX
    replace hb := hb.trans (hbX.mono hbase)
    replace hbk := Lib.hid hbk
    have bnd := hf
    unfold formP at bnd
    simp only at bnd
    have bno := ho
    unfold onP at bno
    simp only at bno
    have hmt := fun z => mem_tiles (z := z) hf ho
    simp only at hmt
    have hlz : ∀ z ∈ tilesL W x y bw bh, 0 ≤ z ∧ z < n := fun z hz => by
      obtain ⟨z0, z1, _⟩ := (hmt z).1 hz
      have := hn.out
      omega
    have CT := Lib.hid (fun W' => build_tiles W H id ow x y bw bh A n c W' hW0 hW1 (by omega) (by omega) (by omega) (by omega) (by omega) (by omega) (by omega) (by omega))
    have y0 := hX.cell (i := 0) rfl
    have y1 := hX.cell (i := 1) rfl
    have y2 := hX.cell (i := 2) rfl
    have y3 := hX.cell (i := 3) rfl
    have y4 := hX.cell (i := 4) rfl
    have y5 := hX.cell (i := 5) rfl
    have z0 := hG.cell (i := 0) rfl
    have z1 := hG.cell (i := 1) rfl
    have z2 := hG.cell (i := 2) rfl
    clear hbX hv hall
    go_wp2_with fail
    generalize wr.alloc (.cells #[.int .i64 id, .int .i64 ow, .int .i64 x, .int .i64 y, .int .i64 bw, .int .i64 bh] 76) = w7 at *
    generalize wr.heap.size = X at *
    refine Calls.mono (CT.out _) ?_
    rintro e w8 ⟨A5, c5, rfl, hown5, hb8⟩
    clear CT y0 y1 y2 y3 y4 y5 z0 z1 z2 k0 k1 k2 k3 k4 k5 hX
    have hg7 : g < w7.heap.size := by
      obtain ⟨g', cap, hv, _, hlt⟩ := hO.form (show 0 < n by have := hn.out; omega)
      injection hv with hv
      injection hv with hv
      injection hv with hv
      omega
    have hw8 := hb8.size
    replace hG := hG.below hb8 hG.lt
    replace hO := own_below hO hb8
    replace hb := hb.trans (hb8.mono hb.size)
    clear hb8
    have hcov : ∀ t : Nat, t < n → covK W l (k + 1) (t : Int) = (covK W l k (t : Int) || decide ((t : Int) ∈ tilesL W x y bw bh)) := fun t ht => by
      rw [hcs.out]
      congr 1
      refine decide_eq_decide.2 ((hmt (t : Int)).trans ⟨fun h => h.2.2, fun h => ⟨by omega, by have := hn.out; omega, h⟩⟩).symm
    have htl16 : (tilesL W x y bw bh).length ≤ 16 := by
      unfold tilesL
      rw [tilesR_len]
      exact Nat.mul_le_mul (show bh.toNat ≤ 4 by omega) (show bw.toNat ≤ 4 by omega)
    generalize tilesL W x y bw bh = tl at *
    have hO' : w8.ownsRow g 4 1 (.slice (some ⟨g, 0, none⟩) n n) n (bools n (fun t => covK W l k (t : Int) || decide ((t : Int) ∈ tl.take 0))) := by
      rw [bools_congr (g := fun t => covK W l k (t : Int)) (fun t _ => by simp)]
      exact hO
    clear hO
    go_wp2_with fail
    go_loopw [24] (fun i wr => ∃ (q : Nat), q ≤ tl.length ∧ i = .int .i64 q ∧ wr.ownsRow g 4 1 (.slice (some ⟨g, 0, none⟩) n n) n (bools n (fun t => covK W l k (t : Int) || decide ((t : Int) ∈ tl.take q))) ∧ wr.ownsRow w7.heap.size 3 1 (.slice A5 tl.length c5) tl.length (nums .i64 tl) ∧ Blk wr w.heap.size #[.int .i64 W, .int .i64 H, .slice A n c] 24 ∧ Below w.heap.size w wr) (fun i _ => tl.length - (intOf i).toNat)
    case atStart => exact ⟨0, Nat.zero_le _, rfl, hO', hown5, hG, hb⟩
    case round =>
      clear hO' hown5 hG hb
      obtain ⟨q, hq, rfl, hO, hown5, hG, hb⟩ := hrel
      by_cases hqt : q < tl.length
      case neg =>
        obtain rfl : q = tl.length := by omega
        have hO2 : wr.ownsRow g 4 1 (.slice (some ⟨g, 0, none⟩) n n) n (bools n (fun t => covK W l (k + 1) (t : Int))) := by
          rw [bools_congr (g := fun t => covK W l k (t : Int) || decide ((t : Int) ∈ tl.take tl.length)) (fun t ht => by rw [hcov t ht, List.take_of_length_le (Nat.le_refl _)])]
          exact hO
        have HO := Lib.hid hO2
        have HG := Lib.hid hG
        have HB := Lib.hid hb
        clear hO hO2 hown5 hG hb hcov hmt hlz
        go_wp2_with fail
        go_roundw
        case rel => exact ⟨k + 1, by omega, by go_num, HO.out, HG.out, HB.out⟩
        case measure => simp [intOf]; omega
      have hmem : tl.getD q 0 ∈ tl := by simp only [List.getD, List.getElem?_eq_getElem hqt, Option.getD_some]; exact List.getElem_mem hqt
      have hz := hlz _ hmem
      have htk : tl.take (q + 1) = tl.take q ++ [tl.getD q 0] := by rw [List.take_succ_eq_append_getElem hqt]; simp only [List.getD, List.getElem?_eq_getElem hqt, Option.getD_some]
      obtain ⟨g5, rfl, hg5, hgl5, hc5, _⟩ := own_at hown5 hqt
      generalize tl.getD q 0 = z at *
      obtain ⟨t, rfl⟩ := Int.eq_ofNat_of_zero_le hz.1
      have ht : t < n := by omega
      obtain ⟨g', hg', _, hgl, hcb, hfb⟩ := ownb_at hO ht
      cases hg'
      have hO2 := ownb_store (k := t) hO true
      rw [bools_congr (g := fun u => covK W l k (u : Int) || decide ((u : Int) ∈ tl.take (q + 1))) (fun u _ => by
        rw [htk]
        by_cases e : u = t
        · subst e; simp
        · rw [if_neg e]
          congr 1
          refine decide_eq_decide.2 ?_
          simp only [List.mem_append, List.mem_singleton]
          exact ⟨fun h => .inl h, fun h => h.elim (fun h => h) fun h => absurd (by omega) e⟩)] at hO2
      have HO := Lib.hid hO2
      have H5 := Lib.hid (own_other hown5 (b := g) (o := t) (by omega) (.bool true))
      have HG := Lib.hid (hG.other (a := ⟨g, t, none⟩) (by show w.heap.size ≠ g; omega) (.bool true))
      have HB := Lib.hid (hb.setCell (p := ⟨g, t, none⟩) (by show w.heap.size ≤ g; omega) (.bool true))
      generalize (covK W l k (t : Int) || decide ((t : Int) ∈ tl.take q)) = old at *
      clear hO hO2 hown5 hG hb hcov hmt hlz htk hmem
      go_wp2_with fail
      go_roundw
      case rel => exact ⟨q + 1, by omega, by go_num, HO.out, H5.out, HG.out, HB.out⟩
      case measure => simp [intOf]; omega
end Go.Proofs.Ytfgjiaakoacomaa
