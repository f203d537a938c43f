/- Which tiles are open? The page's way. -/
import Derived.Test.YtfgjiaakoacomaaRefCovered
import Derived.Test.YtfgjiaakoacomaaClearOpen
namespace Go.Proofs.Ytfgjiaakoacomaa
set_option maxRecDepth 20000
open Go.RowKit

set_option maxHeartbeats 3200000 in
set_option maxRecDepth 20000 in
theorem ref_open (W H k : Int) (A : Option Addr) (n c B : Nat) (ts : List Int) (A1 : Option Addr) (n1 c1 : Nat) (l : List Bd) (w : World) (hr : Reads w B 1 A n (nums .u8 ts)) (hB : B ≤ w.heap.size) (hg : isG W H ts = true) (hl : IsBytes ts) (hv : BdsL w A1 n1 l) (hn1 : n1 ≤ 1000000)
    (hall : ∀ i, i < n1 → formP (bdAt l i) ∧ onP W H (bdAt l i)) (hk : classP k) :
    Calls Try.prog 19 #[.agg #[.int .i64 W, .int .i64 H, .slice A n c], .slice A1 n1 c1, .int .i64 k] w (GivesBools w.heap.size w n (openT W ts l n1 k)) := by
  obtain ⟨hW0, hW1, hH0, hH1, hlen, hts⟩ := isG_bounds hg
  have hll : ts.length = n := by have := hr.1; simpa [nums] using this
  have hn : (n : Int) = W * H := by omega
  have hp := prod_range hW0 hW1 hH0 hH1
  have hn4 : n ≤ 16384 := by omega
  have hG := Blk.new w #[.int .i64 W, .int .i64 H, .slice A n c] 24
  have hb := (Below.refl w.heap.size w).alloc (Nat.le_refl _) (.cells #[.int .i64 W, .int .i64 H, .slice A n c] 24)
  have hGl : w.heap.size < (w.alloc (.cells #[.int .i64 W, .int .i64 H, .slice A n c] 24)).heap.size := by simp
  have C := Lib.hid (ref_covered W H A n c A1 n1 c1 l _ hW0 hW1 hH0 hH1 hn (hv.below hb) hn1 hall)
  replace hn := Lib.hid hn
  replace hlen := Lib.hid hlen
  replace hll := Lib.hid hll
  have HTS := Lib.hid hts
  clear hts
  go_enter Try.func19, Try.ntmps19
  go_wp2_with fail
  generalize w.alloc (.cells #[.int .i64 W, .int .i64 H, .slice A n c] 24) = w1 at *
  refine Calls.mono C.out ?_
  rintro e w2 ⟨A2, c2, rfl, hO, hb2⟩
  clear C
  replace hG := hG.below hb2 hG.lt
  have hs1 := hb.size
  replace hb := hb.trans (hb2.mono hb.size)
  obtain ⟨g, cap, hv2, hg1, hg2⟩ := hO.form (show 0 < n by have := hn.out; omega)
  injection hv2 with hv2 _ hcap
  subst hv2; subst hcap
  have hO' : w2.ownsRow w1.heap.size 4 1 (.slice (some ⟨g, 0, none⟩) n c2) n (bools n (fun t => if t < 0 then openT W ts l n1 k t else covK W l n1 (t : Int))) := by
    rw [bools_congr (g := fun t => covK W l n1 (t : Int)) (fun t _ => by simp)]
    exact hO
  clear hO hb2
  go_wp2_with fail
  go_loopw [8] (fun i wr => ∃ (q : Nat), q ≤ n ∧ i = .int .i64 q ∧ wr.ownsRow w1.heap.size 4 1 (.slice (some ⟨g, 0, none⟩) n c2) n (bools n (fun t => if t < q then openT W ts l n1 k t else covK W l n1 (t : Int))) ∧ Blk wr w.heap.size #[.int .i64 W, .int .i64 H, .slice A n c] 24 ∧ Below w.heap.size w wr) (fun i _ => n - (intOf i).toNat)
  case atStart => exact ⟨0, Nat.zero_le _, rfl, hO', hG, hb⟩
  case round =>
    clear hO' hG hb
    obtain ⟨q, hq, rfl, hO, hG, hb⟩ := hrel
    by_cases hqn : q < n
    case neg =>
      obtain rfl : q = n := by omega
      have hO2 : wr.ownsRow w1.heap.size 4 1 (.slice (some ⟨g, 0, none⟩) q c2) q (bools q (openT W ts l n1 k)) := by
        rw [bools_congr (f := openT W ts l n1 k) (g := fun t => if t < q then openT W ts l n1 k t else covK W l n1 (t : Int)) (fun t ht => by rw [if_pos ht])]
        exact hO
      have HO := Lib.hid (own_mono hO2 hs1)
      have HB := Lib.hid hb
      clear hO hO2 hG hb hv hall
      go_wp2_with fail
      go_ret
      exact ⟨_, _, rfl, HO.out, HB.out⟩
    obtain ⟨g', hg', _, hgl, hcb, hfb⟩ := ownb_at hO hqn
    cases hg'
    rw [if_neg (Nat.lt_irrefl q)] at hcb
    have hrw := hr.below (hb.mono hB)
    obtain ⟨_, b, o, rfl, hbB, hct⟩ := hrw.num hqn
    have hx : 0 ≤ ts.getD q 0 ∧ ts.getD q 0 ≤ 5 := by
      have hm : ts.getD q 0 ∈ ts := by simp only [List.getD, List.getElem?_eq_getElem (show q < ts.length by rw [hll.out]; exact hqn), Option.getD_some]; exact List.getElem_mem _
      exact ⟨(hl _ hm).1, HTS.out _ hm⟩
    have HOP := Lib.hid (show openT W ts l n1 k q = (!covK W l n1 (q : Int) && decide (0 < price k (ts.getD q 0))) from rfl)
    have CP := Lib.hid (fun W' => ref_cost k (ts.getD q 0) W' hk.1 hk.2 hx.1 hx.2)
    have HX : Hid (∀ (W' : World) (v : Bool), W'.ownsRow w1.heap.size 4 1 (.slice (some ⟨g, 0, none⟩) n c2) n (bools n (fun t => if t < q then openT W ts l n1 k t else covK W l n1 (t : Int))) → openT W ts l n1 k q = v → (W'.setCell ⟨g, q, none⟩ (.bool v)).ownsRow w1.heap.size 4 1 (.slice (some ⟨g, 0, none⟩) n c2) n (bools n (fun t => if t < q + 1 then openT W ts l n1 k t else covK W l n1 (t : Int)))) := fun W' v hO hv => by
      have := ownb_store (k := q) hO v
      rwa [bools_congr (g := fun t => if t < q + 1 then openT W ts l n1 k t else covK W l n1 (t : Int)) (fun t _ => by
        by_cases e : t = q
        · subst e; rw [if_pos rfl, if_pos (by omega)]; exact hv.symm
        · rw [if_neg e]
          by_cases e2 : t < q
          · rw [if_pos e2, if_pos (by omega)]
          · rw [if_neg e2, if_neg (by omega)])] at this
    have hgG : w.heap.size ≠ g := by omega
    cases hc : covK W l n1 (q : Int) with
    | true =>
      rw [hc] at hcb
      have hop : openT W ts l n1 k q = false := by rw [HOP.out, hc]; rfl
      have HO := Lib.hid (HX.out wr false hO hop)
      have HG := Lib.hid (hG.other (a := ⟨g, q, none⟩) hgG (.bool false))
      have HB := Lib.hid (hb.setCell (p := ⟨g, q, none⟩) (by show w.heap.size ≤ g; omega) (.bool false))
      clear hO hG hb hv hall HX HOP CP hc hop hct hrw hr
      go_wp2_with fail
      go_roundw
      case rel => exact ⟨q + 1, by omega, by go_num, HO.out, HG.out, HB.out⟩
      case measure => simp [intOf]; omega
    | false =>
      rw [hc] at hcb
      have z2 := hG.cell (i := 2) rfl
      generalize hxv : ts.getD q 0 = xv at *
      go_wp2_with fail
      refine Calls.mono (CP.out _) ?_
      rintro e w5 ⟨rfl, hb5⟩
      have hO5 := own_below hO hb5
      have hG5 := hG.below hb5 hG.lt
      have hB5 := hb.trans (hb5.mono hb.size)
      obtain ⟨g', hg', _, hgl5, hcb5, hfb5⟩ := ownb_at hO5 hqn
      cases hg'
      rw [if_neg (Nat.lt_irrefl q), hc] at hcb5
      have hop : openT W ts l n1 k q = decide (0 < price k xv) := by rw [HOP.out, hc]; rfl
      generalize hdd : decide (0 < price k xv) = dv at *
      have HO := Lib.hid (HX.out w5 dv hO5 hop)
      have HG := Lib.hid (hG5.other (a := ⟨g, q, none⟩) hgG (.bool dv))
      have HB := Lib.hid (hB5.setCell (p := ⟨g, q, none⟩) (by show w.heap.size ≤ g; omega) (.bool dv))
      generalize price k xv = pv at *
      clear hO hG hb hv hall HX HOP CP hc hop hct hrw hr hO5 hG5 hB5 hb5 hcb hfb z2
      go_wp2_with fail
      go_roundw
      case rel => exact ⟨q + 1, by omega, by go_num, HO.out, HG.out, HB.out⟩
      case measure => simp [intOf]; omega
end Go.Proofs.Ytfgjiaakoacomaa
