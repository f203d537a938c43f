/- How the page reads a map. -/
import Derived.Test.YtdcilabbjejklaaMapOpen
namespace Go.Proofs.Ytdcilabbjejklaa
set_option maxRecDepth 20000
open Go.RowKit

/-! Bytes that must be these, one by one. -/
theorem same_next {cs l : List Int} {k : Nat} (h1 : k < cs.length) (h2 : k < l.length) (h : l.getD k 0 = cs.getD k 0) : rsame (cs.drop k) (.ok (l.drop k)) = rsame (cs.drop (k + 1)) (.ok (l.drop (k + 1))) := by
  rw [drop_cons h1, drop_cons h2, h]
  simp [rsame, rbyte, rmust]
theorem same_ne {cs l : List Int} {k : Nat} (h1 : k < cs.length) (h2 : k < l.length) (h : ¬ l.getD k 0 = cs.getD k 0) : rsame (cs.drop k) (.ok (l.drop k)) = .bad 1 := by
  rw [drop_cons h1, drop_cons h2]
  have : (l.getD k 0 == cs.getD k 0) = false := by simpa using h
  simp only [rsame, rbyte, this, rmust, Bool.false_eq_true, if_false]
  exact rsame_bad _ _
theorem same_none {cs l : List Int} {k : Nat} (h1 : k < cs.length) (h2 : l.length ≤ k) : rsame (cs.drop k) (.ok (l.drop k)) = .bad 11 := by
  rw [drop_cons h1, List.drop_of_length_le h2]
  exact rsame_bad _ _
theorem same_next2 {cs l : List Int} {k b : Nat} (h1 : k < cs.length) (h2 : b < l.length) (h : l.getD b 0 = cs.getD k 0) : rsame (cs.drop k) (.ok (l.drop b)) = rsame (cs.drop (k + 1)) (.ok (l.drop (b + 1))) := by
  rw [drop_cons h1, drop_cons h2, h]
  simp [rsame, rbyte, rmust]
theorem same_ne2 {cs l : List Int} {k b : Nat} (h1 : k < cs.length) (h2 : b < l.length) (h : ¬ l.getD b 0 = cs.getD k 0) : rsame (cs.drop k) (.ok (l.drop b)) = .bad 1 := by
  rw [drop_cons h1, drop_cons h2]
  have : (l.getD b 0 == cs.getD k 0) = false := by simpa using h
  simp only [rsame, rbyte, this, rmust, Bool.false_eq_true, if_false]
  exact rsame_bad _ _
theorem same_none2 {cs l : List Int} {k b : Nat} (h1 : k < cs.length) (h2 : l.length ≤ b) : rsame (cs.drop k) (.ok (l.drop b)) = .bad 11 := by
  rw [drop_cons h1, List.drop_of_length_le h2]
  exact rsame_bad _ _
theorem parse_bad {l : List Int} {e : Int} (h : (rhead (.ok l)).2 = .bad e) : parseG l = ((0, 0, []), e) := by
  unfold parseG rground
  simp only [h, rsame_bad, rend]
theorem bad_same {l : List Int} {e : Int} (h : rsame [84, 71] (.ok l) = .bad e) : parseG l = ((0, 0, []), e) := by
  refine parse_bad ?_
  unfold rhead
  simp only [bnd, rsameU, h]
  exact stays_tiles _ e
theorem bad_w {l : List Int} {e : Int} (h : (rnum 1 128 (rsame [84, 71] (.ok l))).2 = .bad e) : parseG l = ((0, 0, []), e) := by
  refine parse_bad ?_
  unfold rhead
  simp only [bnd, rsameU, h]
  exact stays_tiles _ e
theorem bad_h {l : List Int} {e : Int} (h : (rnum 1 128 (rnum 1 128 (rsame [84, 71] (.ok l))).2).2 = .bad e) : parseG l = ((0, 0, []), e) := by
  refine parse_bad ?_
  unfold rhead
  simp only [bnd, rsameU, h]
  exact stays_tiles _ e
/-- A side, as the page reads it. -/
def sideV (r : Int × Int × Int) : Int × Int × Int := if r.2.2 = 0 ∧ (r.1 < 1 ∨ 128 < r.1) then (0, 0, 1) else r
theorem side_num {l : List Int} (hb : IsBytes l) : (∃ n k : Int, sideV (get 0 0 l) = (n, k, 0) ∧ (1 ≤ n ∧ n ≤ 128) ∧ (1 ≤ k ∧ k ≤ l.length) ∧ rnum 1 128 (.ok l) = (n, .ok (l.drop k.toNat))) ∨ (∃ n k e : Int, sideV (get 0 0 l) = (n, k, e) ∧ e ≠ 0 ∧ (rnum 1 128 (.ok l)).2 = .bad e) := by
  rcases getN_ok0 hb with ⟨n, k, h, h0, h1, h2, h3, _⟩ | ⟨v, h⟩ | ⟨v, h⟩
  · by_cases hn : 1 ≤ n ∧ n ≤ 128
    · exact .inl ⟨n, k, by unfold sideV; rw [h, if_neg (by simp; omega)], hn, ⟨h2, h3⟩, by simp [rnum, h, hn]⟩
    · exact .inr ⟨0, 0, 1, by unfold sideV; rw [h, if_pos (by simp; omega)], by omega, by simp [rnum, h, hn]⟩
  · exact .inr ⟨v, 0, 1, by unfold sideV; rw [h, if_neg (by simp)], by omega, by simp [rnum, h]⟩
  · exact .inr ⟨v, 0, 11, by unfold sideV; rw [h, if_neg (by simp)], by omega, by simp [rnum, h]⟩

theorem slice_from (A : Option Addr) (n c k : Nat) (x : Int) (hx : x = (k : Int)) (hk : k ≤ n) (W : World) : (Instr.slice 37 (.slice A n c) (some (.int .i64 x)) none none).run Try.prog W = .ok (.slice (if c = k then A else A.map (·.add (k * 1))) (n - k) (c - k)) W := by
  subst hx
  rw [run_slice_l (ht := by kernel_rfl) (kl := .i64) (l := (k : Int)) (h0 := by omega) (h1 := by omega)]
  rw [show (sizeOf (Try.prog.elem 37)).run Try.prog W = .ok 1 W by kernel_rfl]
  simp [Result.andThen, sliced]
/-- 's[k:]' of bytes: what it reads as, and how it is reckoned. -/
theorem bytes_from {w : World} {B n c k : Nat} {A : Option Addr} {l : List Int} (h : Reads w B 1 A n (nums .u8 l)) (hk : k ≤ n) (hc : n ≤ c) (x : Int) (hx : x = (k : Int)) :
    ∃ A1, Reads w B 1 A1 (n - k) (nums .u8 (l.drop k)) ∧ ∀ W, (Instr.slice 37 (.slice A n c) (some (.int .i64 x)) none none).run Try.prog W = .ok (.slice A1 (n - k) (c - k)) W :=
  ⟨_, by have := h.cut (cap := c) hk hc; simpa [nums] using this, fun W => slice_from A n c k x hx hk W⟩

set_option maxHeartbeats 800000 in
set_option maxRecDepth 20000 in
theorem ref_side (A : Option Addr) (n c B : Nat) (l : List Int) (w : World) (hr : Reads w B 1 A n (nums .u8 l)) (hl : IsBytes l) (hn : n ≤ 4611686018427387904) :
    Calls Try.prog 73 #[.slice A n c] w (Gives3 (sideV (get 0 0 l)) w) := by
  have C := ref_get_num A n c B l w hr hl hn
  have hg : (get 0 0 l).2.2 = 0 ∨ ¬ (get 0 0 l).2.2 = 0 := by omega
  generalize get 0 0 l = r at *
  obtain ⟨x, k, e⟩ := r
  simp only at hg
  unfold Gives3 at C
  simp only at C
  have C := Lib.hid C
  rcases hg with rfl | he
  · by_cases h1 : x < 1
    · have HS : Hid (sideV (x, k, 0) = (0, 0, 1)) := by show _ = _; unfold sideV; rw [if_pos (by simp; omega)]
      go_enter Try.func73, Try.ntmps73
      go_wp2_with fail
      refine Calls.mono C.out ?_
      rintro e w1 ⟨rfl, rfl⟩
      go_wp2_with fail
      go_ret3
      exact ⟨by rw [HS.out]; rfl, rfl⟩
    · by_cases h2 : 128 < x
      · have HS : Hid (sideV (x, k, 0) = (0, 0, 1)) := by show _ = _; unfold sideV; rw [if_pos (by simp; omega)]
        go_enter Try.func73, Try.ntmps73
        go_wp2_with fail
        refine Calls.mono C.out ?_
        rintro e w1 ⟨rfl, rfl⟩
        go_wp2_with fail
        go_ret3
        exact ⟨by rw [HS.out]; rfl, rfl⟩
      · have HS : Hid (sideV (x, k, 0) = (x, k, 0)) := by show _ = _; unfold sideV; rw [if_neg (by simp; omega)]
        go_enter Try.func73, Try.ntmps73
        go_wp2_with fail
        refine Calls.mono C.out ?_
        rintro e w1 ⟨rfl, rfl⟩
        go_wp2_with fail
        go_ret3
        exact ⟨by rw [HS.out]; rfl, rfl⟩
  · have HS : Hid (sideV (x, k, e) = (x, k, e)) := by show _ = _; unfold sideV; rw [if_neg (by simp [he])]
    have d : (e == 0) = false := by simpa using he
    go_enter Try.func73, Try.ntmps73
    go_wp2_with fail
    refine Calls.mono C.out ?_
    rintro e w1 ⟨rfl, rfl⟩
    go_wp2_with fail
    go_ret3
    exact ⟨by rw [HS.out]; rfl, rfl⟩

theorem head_of {l : List Int} {s1 s2 s3 : St} {W H : Int} (h1 : rsame [84, 71] (.ok l) = s1) (h2 : rnum 1 128 s1 = (W, s2)) (h3 : rnum 1 128 s2 = (H, s3)) : rhead (.ok l) = ((W, H, (rtiles (W * H).toNat s3).1), (rtiles (W * H).toNat s3).2) := by
  subst h1
  unfold rhead
  simp only [bnd, rsameU, h2, h3, give]
theorem fin_of {l zs : List Int} {s1 s2 s3 : St} {W H : Int} {a : Nat} (h1 : rsame [84, 71] (.ok l) = s1) (h2 : rnum 1 128 s1 = (W, s2)) (h3 : rnum 1 128 s2 = (H, s3)) (hT : TLink (rtiles (W * H).toNat s3) zs 0 (.ok (l.drop a))) (ha : a ≤ l.length) :
    parseG l = match rend (rsame (eight (fsum fstart (l.take a))) (.ok (l.drop a))) with
      | .ok _ => ((W, H, zs), 0)
      | .bad e => ((0, 0, []), e) := by
  obtain ⟨j, hj, hT⟩ := hT
  obtain rfl : j = 0 := by omega
  rw [show rtiles 0 (.ok (l.drop a)) = ([], .ok (l.drop a)) from rfl, List.append_nil] at hT
  unfold parseG rground
  rw [head_of h1 h2 h3, hT]
  simp only [leftN, List.length_drop]
  rw [show l.length - (l.length - a) = a by omega]
  cases rend (rsame (eight (fsum fstart (l.take a))) (.ok (l.drop a))) <;> rfl
theorem tiles_start (W H : Int) (s : List Int) (h : 0 ≤ W * H) : TLink (rtiles (W * H).toNat (.ok s)) [] (W * H) (.ok s) := ⟨(W * H).toNat, by omega, by simp⟩
theorem tiles_byte {T : List Int × St} {zs l : List Int} {j a : Nat} (h : TLink T zs ((j : Int) + 1) (.ok (l.drop a))) (ha : a < l.length) : TLink T (zs ++ [l.getD a 0]) j (if l.getD a 0 ≤ 5 then .ok (l.drop (a + 1)) else .bad 1) := by
  rw [drop_cons ha] at h
  have := tlink_next (x := l.getD a 0) h (fun _ _ => rfl)
  by_cases h5 : l.getD a 0 ≤ 5
  · simpa [rbyte, rmust, h5] using this
  · simpa [rbyte, rmust, h5] using this
theorem tiles_none {T : List Int × St} {zs l : List Int} {j a : Nat} (h : TLink T zs ((j : Int) + 1) (.ok (l.drop a))) (ha : l.length ≤ a) : T.2 = .bad 11 := by
  rw [List.drop_of_length_le ha] at h
  exact tlink_next (x := 0) h (fun _ hl => by cases hl)

/-- The result in block C, made since w0. -/
structure MQ (w0 w : World) (C : Nat) : Prop where
  res : Blk w C #[.int .i64 0, .int .i64 0, .slice none 0 0] 39
  below : Below C w0 w
theorem MQ.up {w0 w w' : World} {C B : Nat} (h : MQ w0 w C) (hb : Below B w w') (hB : C < B) : MQ w0 w' C := ⟨h.res.below hb hB, h.below.trans (hb.mono (by omega))⟩

set_option maxHeartbeats 3200000 in
set_option maxRecDepth 20000 in
theorem ref_mapparse (A : Option Addr) (n c B : Nat) (l : List Int) (w : World) (hr : Reads w B 1 A n (nums .u8 l)) (hB : B ≤ w.heap.size) (hb : IsBytes l) (hnc : n ≤ c) (hc : (c : Int) ≤ 9223372036854775807) (hn : n ≤ 4194304) :
    Calls Try.prog 49 #[.slice A n c] w (GivesG w (parseG l)) := by
  obtain ⟨i0, hi0, hy0, hy1, hy2⟩ := info_parts info_u8
  have hll := Lib.hid (show l.length = n by have := hr.1; simpa [nums] using this)
  have hz0 := (Blk.new w #[.int .i64 0, .int .i64 0, .slice none 0 0] 39).alloc (.cells #[.int .u8 84, .int .u8 71] 5)
  have hb0 : Below w.heap.size w ((w.alloc (.cells #[.int .i64 0, .int .i64 0, .slice none 0 0] 39)).alloc (.cells #[.int .u8 84, .int .u8 71] 5)) := ((Below.refl _ _).alloc (Nat.le_refl _) _).alloc (by simp) _
  have hQ1 : MQ w ((w.alloc (.cells #[.int .i64 0, .int .i64 0, .slice none 0 0] 39)).alloc (.cells #[.int .u8 84, .int .u8 71] 5)) w.heap.size := ⟨hz0, hb0⟩
  have hH1 : Reads ((w.alloc (.cells #[.int .i64 0, .int .i64 0, .slice none 0 0] 39)).alloc (.cells #[.int .u8 84, .int .u8 71] 5)) (w.heap.size + 1 + 1) 1 (some ⟨w.heap.size + 1, 0, none⟩) 2 (nums .u8 [84, 71]) := by
    have := reads_new (w.alloc (.cells #[.int .i64 0, .int .i64 0, .slice none 0 0] 39)) (nums .u8 [84, 71]) 5 (0, 0) 2 rfl
    simpa [nums] using this
  have hD1 : w.heap.size + 1 < ((w.alloc (.cells #[.int .i64 0, .int .i64 0, .slice none 0 0] 39)).alloc (.cells #[.int .u8 84, .int .u8 71] 5)).heap.size := by simp
  go_enter Try.func49, Try.ntmps49
  go_wp2_with fail
  clear hz0 hb0
  generalize (w.alloc (.cells #[.int .i64 0, .int .i64 0, .slice none 0 0] 39)).alloc (.cells #[.int .u8 84, .int .u8 71] 5) = w1 at *
  generalize w.heap.size + 1 = D at *
  generalize hC : w.heap.size = C at *
  replace hC := Lib.hid hC
  go_loopw [5] (fun v5 wr => ∃ k : Nat, k ≤ 2 ∧ k ≤ n ∧ v5 = .int .i64 (k : Int) ∧ MQ w wr C ∧ D < wr.heap.size ∧ Reads wr (D + 1) 1 (some ⟨D, 0, none⟩) 2 (nums .u8 [84, 71]) ∧ Hid (rsame [84, 71] (.ok l) = rsame ([84, 71].drop k) (.ok (l.drop k)))) (fun v5 _ => 2 - (intOf v5).toNat)
  case atStart => exact ⟨0, by omega, Nat.zero_le _, rfl, hQ1, hD1, hH1, rfl⟩
  clear hQ1 hH1 hD1
  case round =>
    obtain ⟨k, hk2, hkn, rfl, hQ, hDs, hH, HS⟩ := hrel
    have hr1 := (hr.more hB).below hQ.below
    by_cases hlt : k < 2
    · have hkc : k < ([84, 71] : List Int).length := hlt
      by_cases hkl : k < n
      · obtain ⟨_, b, o, rfl, hbb, hcc⟩ := hr1.num hkl
        obtain ⟨_, b2, o2, he2, hb2, hc2⟩ := hH.num hlt
        simp only [Option.some.injEq, Addr.mk.injEq] at he2
        obtain ⟨rfl, rfl, _⟩ := he2
        rw [Nat.zero_add] at hc2
        have hkl' : k < l.length := by rw [hll.out]; exact hkl
        have HN := Lib.hid (fun h => same_next hkc hkl' h)
        have HX := Lib.hid (fun h => same_ne hkc hkl' h)
        have hbD : D < wr.heap.size := hDs
        have hbb' : b < wr.heap.size := by have := hQ.res.lt; omega
        clear hkl' hkc
        generalize l.getD k 0 = x at *
        generalize ([84, 71] : List Int).getD k 0 = y at *
        replace hcc := Lib.hid hcc
        replace hc2 := Lib.hid hc2
        have hxy : x = y ∨ (¬ x = y ∧ (x != y) = true) := by by_cases h : x = y; exact .inl h; exact .inr ⟨h, by simpa using h⟩
        rcases hxy with rfl | ⟨hne, hd⟩
        · replace HS := Lib.hid (HS.out.trans (HN.out rfl))
          clear HN HX
          go_wp2_with fail
          refine' wp_region_grow [Fact.val _, Fact.val _, Fact.val _, Fact.val _, Fact.val _, Fact.val _, Fact.val _, Fact.val _, Fact.val _] (A := _) ?hAp (by kernel_rfl) (by kernel_rfl) ?stepsp ?hendp
          case hAp =>
            intro us X hX
            simp only [fillF, Act.put, List.setIfInBounds_toArray, List.set_cons_zero, List.set_cons_succ, Nat.reduceAdd]
            (try go_simp)
            exact hX
          case stepsp =>
            refine ⟨fun us WW HB hd K hK => ?_, ?_⟩
            · clear hd
              have g0 := (HB.cell hbb').trans hcc.out
              have g1 := (HB.cell hbD).trans hc2.out
              go_simp
              refine hK _ _ (Below.refl _ _) ?_
              (show _ = _); rfl
            refine ⟨fun us WW HB hd K hK => ?_, ?_⟩
            · clear hd
              have g0 := (HB.cell hbb').trans hcc.out
              have g1 := (HB.cell hbD).trans hc2.out
              go_simp
              refine hK _ _ (Below.refl _ _) ?_
              (show _ = _); rfl
            refine ⟨fun us WW HB hd K hK => ?_, ?_⟩
            · clear hd
              have g0 := (HB.cell hbb').trans hcc.out
              have g1 := (HB.cell hbD).trans hc2.out
              go_simp
              refine hK _ _ (Below.refl _ _) ?_
              (show _ = _); rfl
            refine ⟨fun us WW HB hd K hK => ?_, ?_⟩
            · clear hd
              have g0 := (HB.cell hbb').trans hcc.out
              have g1 := (HB.cell hbD).trans hc2.out
              go_simp
              refine hK _ _ (Below.refl _ _) ?_
              (show _ = _); rfl
            refine ⟨fun us WW HB hd K hK => ?_, ?_⟩
            · clear hd
              have g0 := (HB.cell hbb').trans hcc.out
              have g1 := (HB.cell hbD).trans hc2.out
              go_simp
              refine hK _ _ (Below.refl _ _) ?_
              (show _ = _); rfl
            refine ⟨fun us WW HB hd K hK => ?_, ?_⟩
            · clear hd
              have g0 := (HB.cell hbb').trans hcc.out
              have g1 := (HB.cell hbD).trans hc2.out
              go_simp
              refine hK _ _ (Below.refl _ _) ?_
              (show _ = _); rfl
            refine ⟨fun us WW HB hd K hK => ?_, ?_⟩
            · clear hd
              have g0 := (HB.cell hbb').trans hcc.out
              have g1 := (HB.cell hbD).trans hc2.out
              go_simp
              refine hK _ _ (Below.refl _ _) ?_
              (show _ = _); rfl
            refine ⟨fun us WW HB hd K hK => ?_, ?_⟩
            · clear hd
              have g0 := (HB.cell hbb').trans hcc.out
              have g1 := (HB.cell hbD).trans hc2.out
              go_simp
              refine hK _ _ (Below.refl _ _) ?_
              (show _ = _); rfl
            refine ⟨fun us WW HB hd K hK => ?_, ?_⟩
            · clear hd
              have g0 := (HB.cell hbb').trans hcc.out
              have g1 := (HB.cell hbD).trans hc2.out
              go_simp
              refine hK _ _ (Below.refl _ _) ?_
              (show _ = _); rfl
            trivial
          case hendp =>
            intro us WW HB hd
            clear hd
            have hQ2 := hQ.up HB hQ.res.lt
            have hH2 := hH.below (HB.mono hDs)
            have hDs2 := Nat.lt_of_lt_of_le hDs HB.size
            clear HB hQ hH hcc hc2 hDs hr1 hbD
            go_wp2_with fail
            go_roundw
            case rel => exact ⟨k + 1, by omega, by omega, by go_num, hQ2, hDs2, hH2, HS⟩
            case measure => simp [intOf]; omega
        · have HE := Lib.hid (bad_same (HS.out.trans (HX.out hne)))
          clear HN HX
          go_wp2_with fail
          refine' wp_region_grow [Fact.val _, Fact.val _, Fact.val _, Fact.val _, Fact.val _, Fact.val _, Fact.val _, Fact.val _, Fact.val _] (A := _) ?hAq (by kernel_rfl) (by kernel_rfl) ?stepsq ?hendq
          case hAq =>
            intro us X hX
            simp only [fillF, Act.put, List.setIfInBounds_toArray, List.set_cons_zero, List.set_cons_succ, Nat.reduceAdd]
            (try go_simp)
            exact hX
          case stepsq =>
            refine ⟨fun us WW HB hd K hK => ?_, ?_⟩
            · clear hd
              have g0 := (HB.cell hbb').trans hcc.out
              have g1 := (HB.cell hbD).trans hc2.out
              go_simp
              refine hK _ _ (Below.refl _ _) ?_
              (show _ = _); rfl
            refine ⟨fun us WW HB hd K hK => ?_, ?_⟩
            · clear hd
              have g0 := (HB.cell hbb').trans hcc.out
              have g1 := (HB.cell hbD).trans hc2.out
              go_simp
              refine hK _ _ (Below.refl _ _) ?_
              (show _ = _); rfl
            refine ⟨fun us WW HB hd K hK => ?_, ?_⟩
            · clear hd
              have g0 := (HB.cell hbb').trans hcc.out
              have g1 := (HB.cell hbD).trans hc2.out
              go_simp
              refine hK _ _ (Below.refl _ _) ?_
              (show _ = _); rfl
            refine ⟨fun us WW HB hd K hK => ?_, ?_⟩
            · clear hd
              have g0 := (HB.cell hbb').trans hcc.out
              have g1 := (HB.cell hbD).trans hc2.out
              go_simp
              refine hK _ _ (Below.refl _ _) ?_
              (show _ = _); rfl
            refine ⟨fun us WW HB hd K hK => ?_, ?_⟩
            · clear hd
              have g0 := (HB.cell hbb').trans hcc.out
              have g1 := (HB.cell hbD).trans hc2.out
              go_simp
              refine hK _ _ (Below.refl _ _) ?_
              (show _ = _); rfl
            refine ⟨fun us WW HB hd K hK => ?_, ?_⟩
            · clear hd
              have g0 := (HB.cell hbb').trans hcc.out
              have g1 := (HB.cell hbD).trans hc2.out
              go_simp
              refine hK _ _ (Below.refl _ _) ?_
              (show _ = _); rfl
            refine ⟨fun us WW HB hd K hK => ?_, ?_⟩
            · clear hd
              have g0 := (HB.cell hbb').trans hcc.out
              have g1 := (HB.cell hbD).trans hc2.out
              go_simp
              refine hK _ _ (Below.refl _ _) ?_
              (show _ = _); rfl
            refine ⟨fun us WW HB hd K hK => ?_, ?_⟩
            · clear hd
              have g0 := (HB.cell hbb').trans hcc.out
              have g1 := (HB.cell hbD).trans hc2.out
              go_simp
              refine hK _ _ (Below.refl _ _) ?_
              (show _ = _); rfl
            refine ⟨fun us WW HB hd K hK => ?_, ?_⟩
            · clear hd
              have g0 := (HB.cell hbb').trans hcc.out
              have g1 := (HB.cell hbD).trans hc2.out
              go_simp
              refine hK _ _ (Below.refl _ _) ?_
              (show _ = _); rfl
            trivial
          case hendq =>
            intro us WW HB hd
            clear hd
            replace hQ := hQ.up HB hQ.res.lt
            clear HB hH hcc hc2 hDs hr1 hbD
            have r0 := hQ.res.cell (i := 0) rfl
            have r1 := hQ.res.cell (i := 1) rfl
            have r2 := hQ.res.cell (i := 2) rfl
            have f0 := hQ.res.free 0
            have f1 := hQ.res.free 1
            have f2 := hQ.res.free 2
            have hz := Lib.hid (((hQ.res.set 0 (.int .i64 0)).set 1 (.int .i64 0)).set 2 (.slice none 0 0))
            have hzb := Lib.hid (((hQ.below.setCell (p := ⟨C, 0, none⟩) (Nat.le_refl C) (.int .i64 0)).setCell (p := ⟨C, 1, none⟩) (Nat.le_refl C) (.int .i64 0)).setCell (p := ⟨C, 2, none⟩) (Nat.le_refl C) (.slice none 0 0))
            replace hQ := Lib.hid hQ
            go_wp2_with fail
            clear r0 r1 r2 f0 f1 f2
            generalize ((WW.setCell ⟨C, 0, none⟩ (.int .i64 0)).setCell ⟨C, 1, none⟩ (.int .i64 0)).setCell ⟨C, 2, none⟩ (.slice none 0 0) = wz at *
            have r0 := hz.out.cell (i := 0) rfl
            have r1 := hz.out.cell (i := 1) rfl
            have r2 := hz.out.cell (i := 2) rfl
            refine bodyPost_ret (v := .tuple #[.agg #[.int .i64 0, .int .i64 0, .slice none 0 0], .int .i64 1]) (by simp [results, Try.results49, go_sem, r0, r1, r2]) rfl ?_
            rw [HE.out]
            exact ⟨none, 0, rfl, World.ownsRow_nil _ _ _ _, by rw [hC.out]; exact hzb.out⟩
      · have HE := Lib.hid (bad_same (HS.out.trans (same_none hkc (by rw [hll.out]; omega))))
        obtain rfl : k = n := by omega
        have r0 := hQ.res.cell (i := 0) rfl
        have r1 := hQ.res.cell (i := 1) rfl
        have r2 := hQ.res.cell (i := 2) rfl
        have f0 := hQ.res.free 0
        have f1 := hQ.res.free 1
        have f2 := hQ.res.free 2
        have hz := Lib.hid (((hQ.res.set 0 (.int .i64 0)).set 1 (.int .i64 0)).set 2 (.slice none 0 0))
        have hzb := Lib.hid (((hQ.below.setCell (p := ⟨C, 0, none⟩) (Nat.le_refl C) (.int .i64 0)).setCell (p := ⟨C, 1, none⟩) (Nat.le_refl C) (.int .i64 0)).setCell (p := ⟨C, 2, none⟩) (Nat.le_refl C) (.slice none 0 0))
        replace hQ := Lib.hid hQ
        go_wp2_with fail
        clear r0 r1 r2 f0 f1 f2
        generalize ((wr.setCell ⟨C, 0, none⟩ (.int .i64 0)).setCell ⟨C, 1, none⟩ (.int .i64 0)).setCell ⟨C, 2, none⟩ (.slice none 0 0) = wz at *
        have r0 := hz.out.cell (i := 0) rfl
        have r1 := hz.out.cell (i := 1) rfl
        have r2 := hz.out.cell (i := 2) rfl
        refine bodyPost_ret (v := .tuple #[.agg #[.int .i64 0, .int .i64 0, .slice none 0 0], .int .i64 11]) (by simp [results, Try.results49, go_sem, r0, r1, r2]) rfl ?_
        rw [HE.out]
        exact ⟨none, 0, rfl, World.ownsRow_nil _ _ _ _, by rw [hC.out]; exact hzb.out⟩
    · obtain rfl : k = 2 := by omega
      replace HS : Hid (rsame [84, 71] (.ok l) = .ok (l.drop 2)) := HS
      have hb2 : IsBytes (l.drop 2) := fun x hx => hb x (List.mem_of_mem_drop hx)
      obtain ⟨B1, hrt, hsl1⟩ := bytes_from hr1 hkn hnc 2 rfl
      have K1 := Lib.hid (ref_side B1 (n - 2) (c - 2) _ (l.drop 2) wr hrt hb2 (by omega))
      have h2c : (2 : Int) ≤ (c : Int) := by omega
      have h2n : (2 : Int) ≤ (n : Int) := by omega
      clear hH hDs hrt
      rcases side_num hb2 with ⟨W, k1, hs, ⟨hW1, hW2⟩, ⟨hk1, hk1l⟩, hrn⟩ | ⟨x1, k1, e1, hs, he1, hbad⟩
      case inr =>
        have HE := Lib.hid (bad_w (show (rnum 1 128 (rsame [84, 71] (.ok l))).2 = .bad e1 by rw [HS.out]; exact hbad))
        unfold Gives3 at K1
        rw [hs] at K1
        have d : (e1 != 0) = true := by simpa using he1
        clear hs hbad he1 hb2 hr1
        have r0 := hQ.res.cell (i := 0) rfl
        have r1 := hQ.res.cell (i := 1) rfl
        have r2 := hQ.res.cell (i := 2) rfl
        have f0 := hQ.res.free 0
        have f1 := hQ.res.free 1
        have f2 := hQ.res.free 2
        have hz := Lib.hid (((hQ.res.set 0 (.int .i64 0)).set 1 (.int .i64 0)).set 2 (.slice none 0 0))
        have hzb := Lib.hid (((hQ.below.setCell (p := ⟨C, 0, none⟩) (Nat.le_refl C) (.int .i64 0)).setCell (p := ⟨C, 1, none⟩) (Nat.le_refl C) (.int .i64 0)).setCell (p := ⟨C, 2, none⟩) (Nat.le_refl C) (.slice none 0 0))
        replace hQ := Lib.hid hQ
        go_wp2_with fail
        refine Calls.mono K1.out ?_
        rintro e w2 ⟨rfl, rfl⟩
        clear K1
        go_wp2_with fail
        clear r0 r1 r2 f0 f1 f2
        generalize ((wr.setCell ⟨C, 0, none⟩ (.int .i64 0)).setCell ⟨C, 1, none⟩ (.int .i64 0)).setCell ⟨C, 2, none⟩ (.slice none 0 0) = wz at *
        have r0 := hz.out.cell (i := 0) rfl
        have r1 := hz.out.cell (i := 1) rfl
        have r2 := hz.out.cell (i := 2) rfl
        refine bodyPost_ret (v := .tuple #[.agg #[.int .i64 0, .int .i64 0, .slice none 0 0], .int .i64 e1]) (by simp [results, Try.results49, go_sem, r0, r1, r2]) rfl ?_
        rw [HE.out]
        exact ⟨none, 0, rfl, World.ownsRow_nil _ _ _ _, by rw [hC.out]; exact hzb.out⟩
      unfold Gives3 at K1
      rw [hs] at K1
      obtain ⟨k1n, rfl⟩ := Int.eq_ofNat_of_zero_le (show 0 ≤ k1 by omega)
      have hS2 : Hid (rnum 1 128 (rsame [84, 71] (.ok l)) = (W, .ok (l.drop (2 + k1n)))) := by show _ = _; rw [HS.out, hrn, Int.toNat_natCast, List.drop_drop]
      have hl2 : (l.drop 2).length = n - 2 := by rw [List.length_drop, hll.out]
      have ha1 : 2 + k1n ≤ n := by omega
      generalize hA1 : 2 + k1n = a1 at *
      have hA1i : (2 : Int) + (k1n : Int) = (a1 : Int) := by omega
      have hb3 : IsBytes (l.drop a1) := fun x hx => hb x (List.mem_of_mem_drop hx)
      obtain ⟨B2, hrt, hsl2⟩ := bytes_from hr1 ha1 hnc ((a1 : Nat) : Int) rfl
      have K2 := Lib.hid (ref_side B2 (n - a1) (c - a1) _ (l.drop a1) wr hrt hb3 (by omega))
      have h1c : (a1 : Int) ≤ (c : Int) := by omega
      have h1n : (a1 : Int) ≤ (n : Int) := by omega
      have h10 : (0 : Int) ≤ (a1 : Int) := by omega
      clear hs hrn hrt hl2 hA1
      rcases side_num hb3 with ⟨H, k2, hs, ⟨hH1, hH2⟩, ⟨hk2, hk2l⟩, hrn⟩ | ⟨x2, k2, e2, hs, he2, hbad⟩
      case inr =>
        have HE := Lib.hid (bad_h (show (rnum 1 128 (rnum 1 128 (rsame [84, 71] (.ok l))).2).2 = .bad e2 by rw [hS2.out]; exact hbad))
        unfold Gives3 at K2
        rw [hs] at K2
        have d : (e2 != 0) = true := by simpa using he2
        clear hs hbad he2 hb3 hr1
        have r0 := hQ.res.cell (i := 0) rfl
        have r1 := hQ.res.cell (i := 1) rfl
        have r2 := hQ.res.cell (i := 2) rfl
        have f0 := hQ.res.free 0
        have f1 := hQ.res.free 1
        have f2 := hQ.res.free 2
        have hz := Lib.hid (((hQ.res.set 0 (.int .i64 0)).set 1 (.int .i64 0)).set 2 (.slice none 0 0))
        have hzb := Lib.hid (((hQ.below.setCell (p := ⟨C, 0, none⟩) (Nat.le_refl C) (.int .i64 0)).setCell (p := ⟨C, 1, none⟩) (Nat.le_refl C) (.int .i64 0)).setCell (p := ⟨C, 2, none⟩) (Nat.le_refl C) (.slice none 0 0))
        replace hQ := Lib.hid hQ
        go_wp2_with fail
        refine Calls.mono K1.out ?_
        rintro e w2 ⟨rfl, rfl⟩
        clear K1
        go_wp2_with fail
        refine Calls.mono K2.out ?_
        rintro e w2 ⟨rfl, rfl⟩
        clear K2
        go_wp2_with fail
        clear r0 r1 r2 f0 f1 f2
        generalize ((wr.setCell ⟨C, 0, none⟩ (.int .i64 0)).setCell ⟨C, 1, none⟩ (.int .i64 0)).setCell ⟨C, 2, none⟩ (.slice none 0 0) = wz at *
        have r0 := hz.out.cell (i := 0) rfl
        have r1 := hz.out.cell (i := 1) rfl
        have r2 := hz.out.cell (i := 2) rfl
        refine bodyPost_ret (v := .tuple #[.agg #[.int .i64 0, .int .i64 0, .slice none 0 0], .int .i64 e2]) (by simp [results, Try.results49, go_sem, r0, r1, r2]) rfl ?_
        rw [HE.out]
        exact ⟨none, 0, rfl, World.ownsRow_nil _ _ _ _, by rw [hC.out]; exact hzb.out⟩
      unfold Gives3 at K2
      rw [hs] at K2
      obtain ⟨k2n, rfl⟩ := Int.eq_ofNat_of_zero_le (show 0 ≤ k2 by omega)
      have hS3 : Hid (rnum 1 128 (.ok (l.drop a1)) = (H, .ok (l.drop (a1 + k2n)))) := by show _ = _; rw [hrn, Int.toNat_natCast, List.drop_drop]
      have hl3 : (l.drop a1).length = n - a1 := by rw [List.length_drop, hll.out]
      have ha2 : a1 + k2n ≤ n := by omega
      generalize hA2 : a1 + k2n = a2 at *
      have hA2i : (a1 : Int) + (k2n : Int) = (a2 : Int) := by omega
      obtain ⟨q1, q2⟩ := prod_range hW1 hW2 hH1 hH2
      have hTS := Lib.hid (tiles_start W H (l.drop a2) (by omega))
      have hHead := Lib.hid (head_of rfl hS2.out hS3.out)
      have hFin := Lib.hid (fun zs a hT ha => fin_of (zs := zs) (a := a) rfl hS2.out hS3.out hT ha)
      generalize hPW : W * H = PW at q1 q2 hTS hHead hFin
      have hw : IntKind.i64.wrap (W * H) = PW := by rw [hPW]; exact IntWalk.i64_in _ (by omega)
      replace hPW := Lib.hid hPW
      have hG := Blk.new wr #[.int .i64 W, .int .i64 H, .slice none 0 0] 39
      have hQ1 := hQ.up ((Below.refl wr.heap.size wr).alloc (Nat.le_refl _) (.cells #[.int .i64 W, .int .i64 H, .slice none 0 0] 39)) hQ.res.lt
      have hE1 : wr.heap.size + 1 ≤ (wr.alloc (.cells #[.int .i64 W, .int .i64 H, .slice none 0 0] 39)).heap.size := by simp
      have hCE := hQ.res.lt
      clear hs hrn hl3 hA2 hQ hr1 HS hS2 hS3
      go_wp2_with fail
      refine Calls.mono K1.out ?_
      rintro e w2 ⟨rfl, rfl⟩
      clear K1
      go_wp2_with fail
      refine Calls.mono K2.out ?_
      rintro e w2 ⟨rfl, rfl⟩
      clear K2
      go_wp2_with fail
      clear hsl1 hsl2 hA1i hA2i
      generalize wr.alloc (.cells #[.int .i64 W, .int .i64 H, .slice none 0 0] 39) = w2 at *
      generalize wr.heap.size = E at *
      go_loopw [12, 9] (fun v12 v9 wr => ∃ (j a : Nat) (zs : List Int) (A' : Option Addr) (c' : Nat), a ≤ n ∧ (j : Int) ≤ PW ∧ v12 = .int .i64 (j : Int) ∧ v9 = .int .i64 (a : Int) ∧ MQ w wr C ∧ Blk wr E #[.int .i64 W, .int .i64 H, .slice A' j c'] 39 ∧ wr.ownsRow (E + 1) 5 1 (.slice A' j c') j (nums .u8 zs) ∧ E + 1 ≤ wr.heap.size ∧ Hid (TLink (rtiles PW.toNat (.ok (l.drop a2))) zs (PW - j) (.ok (l.drop a)))) (fun v12 _ _ => (PW - intOf v12).toNat)
      case atStart => exact ⟨0, a2, [], none, 0, ha2, by omega, rfl, rfl, hQ1, hG, World.ownsRow_nil _ _ _ _, hE1, by show TLink _ _ _ _; rw [show PW - ((0 : Nat) : Int) = PW by omega]; exact hTS.out⟩
      clear hQ1 hG hE1 hTS
      case round =>
        obtain ⟨j, a, zs, A', c', han, hjP, rfl, rfl, hQ, hG, hown, hE, HT⟩ := hrel
        have hr1 := (hr.more hB).below hQ.below
        by_cases hj : (j : Int) < PW
        · by_cases hal : a < n
          · skip
            obtain ⟨_, b, o, rfl, hbb, hcc⟩ := hr1.num hal
            obtain ⟨i, hi⟩ : ∃ i : Nat, PW - (j : Int) = (i : Int) + 1 := ⟨(PW - j - 1).toNat, by omega⟩
            have HT1 : Hid (TLink (rtiles PW.toNat (.ok (l.drop a2))) zs ((i : Int) + 1) (.ok (l.drop a))) := by show TLink _ _ _ _; rw [← hi]; exact HT.out
            have HT2 := Lib.hid (tiles_byte HT1.out (show a < l.length by rw [hll.out]; exact hal))
            have hyb := hb.at_ a
            have hbb' : b < wr.heap.size := by have := hQ.res.lt; omega
            generalize l.getD a 0 = y at *
            clear HT HT1
            by_cases hy : y ≤ 5
            case neg =>
              rw [if_neg hy] at HT2
              have HE := Lib.hid (parse_bad (l := l) (e := 1) (by rw [hHead.out]; exact HT2.out))
              have d : decide ((5 : Int) < y) = true := by simpa using hy
              clear HT2 hHead hFin hG hown
              have r0 := hQ.res.cell (i := 0) rfl
              have r1 := hQ.res.cell (i := 1) rfl
              have r2 := hQ.res.cell (i := 2) rfl
              have f0 := hQ.res.free 0
              have f1 := hQ.res.free 1
              have f2 := hQ.res.free 2
              have hz := Lib.hid (((hQ.res.set 0 (.int .i64 0)).set 1 (.int .i64 0)).set 2 (.slice none 0 0))
              have hzb := Lib.hid (((hQ.below.setCell (p := ⟨C, 0, none⟩) (Nat.le_refl C) (.int .i64 0)).setCell (p := ⟨C, 1, none⟩) (Nat.le_refl C) (.int .i64 0)).setCell (p := ⟨C, 2, none⟩) (Nat.le_refl C) (.slice none 0 0))
              replace hQ := Lib.hid hQ
              go_wp2_with fail
              clear r0 r1 r2 f0 f1 f2
              generalize ((wr.setCell ⟨C, 0, none⟩ (.int .i64 0)).setCell ⟨C, 1, none⟩ (.int .i64 0)).setCell ⟨C, 2, none⟩ (.slice none 0 0) = wz at *
              have r0 := hz.out.cell (i := 0) rfl
              have r1 := hz.out.cell (i := 1) rfl
              have r2 := hz.out.cell (i := 2) rfl
              refine bodyPost_ret (v := .tuple #[.agg #[.int .i64 0, .int .i64 0, .slice none 0 0], .int .i64 1]) (by simp [results, Try.results49, go_sem, r0, r1, r2]) rfl ?_
              rw [HE.out]
              exact ⟨none, 0, rfl, World.ownsRow_nil _ _ _ _, by rw [hC.out]; exact hzb.out⟩
            rw [if_pos hy] at HT2
            have d : decide ((5 : Int) < y) = false := by simpa using hy
            have g0 := hG.cell (i := 0) rfl
            have cA : j + 1 ≤ maxLen := by unfold maxLen; omega
            have hCE2 := hQ.res.lt
            go_wp2_with fail
            have HD : Hid (wr.drew = wr.drew) := rfl
            have hQd : MQ w wr.drew C := ⟨hQ.res, hQ.below.drew⟩
            have hGd : Blk wr.drew E #[.int .i64 W, .int .i64 H, .slice A' j c'] 39 := hG
            have hownd := hown.drew
            have hEd : E + 1 ≤ wr.drew.heap.size := hE
            have hccd : wr.drew.cell? ⟨b, o + a, none⟩ = some (.int .u8 y) := hcc
            have hbd : b < wr.drew.heap.size := hbb'
            generalize hwd : wr.drew = wd at HD hQd hGd hownd hEd hccd hbd
            replace hwd := Lib.hid hwd
            have hc0 := Lib.hid hccd
            clear hccd hcc g0 hQ hG hown hE hbb' hr1
            refine' wp_region_chain (fun _ => True) (fun w' => w' = wd) [Tie.val _, Tie.val _, Tie.val _, Tie.val _, Tie.val _, Tie.val _, Tie.link (fun v w' => v = .slice (some ⟨wd.heap.size, 0, none⟩) 1 1 ∧ w' = wd.alloc (.cells #[.int .u8 y] 5)), Tie.link (fun v w' => ∃ A3 c3, v = .slice A3 (j + 1) c3 ∧ w'.ownsRow (E + 1) 5 1 (.slice A3 (j + 1) c3) (j + 1) (nums .u8 (zs ++ [y])) ∧ Below (E + 1) wd w'), Tie.val _, Tie.link (fun v w' => MQ w w' C ∧ E + 1 ≤ w'.heap.size ∧ ∃ A3 c3, Blk w' E #[.int .i64 W, .int .i64 H, .slice A3 (j + 1) c3] 39 ∧ w'.ownsRow (E + 1) 5 1 (.slice A3 (j + 1) c3) (j + 1) (nums .u8 (zs ++ [y])))] (A := _) ?hAc (by kernel_rfl) (by kernel_rfl) (by rfl) (by kernel_rfl) (trivial) (hwd.out) ?stepsc ?hendc
            case hAc =>
              intro us X hX
              simp only [fillT, Act.put, List.setIfInBounds_toArray, List.set_cons_zero, List.set_cons_succ, Nat.reduceAdd]
              (try go_simp)
              exact hX
            case stepsc =>
              refine ⟨fun us W' s HR hs hst K hK => ?_, ?_⟩
              · (try clear hst); (try clear hs)
                go_simp
                refine hK _ ?_
                rfl
              refine ⟨fun us W' s HR hs hst K hK => ?_, ?_⟩
              · have gg : W'.cell? ⟨E, 2, none⟩ = some (.slice A' j c') := by
                  rcases (show s = 0 ∨ s = 1 by have : s ≤ 1 := hs; omega) with rfl | rfl
                  · obtain rfl : W' = wd := hst
                    exact hGd.cell rfl
                  · obtain ⟨_, rfl⟩ : us 6 = _ ∧ W' = _ := hst
                    exact (hGd.alloc _).cell rfl
                go_simp
                refine hK _ ?_
                rfl
              refine ⟨fun us W' s HR hs hst K hK => ?_, ?_⟩
              · (try clear hst); (try clear hs)
                go_simp
                refine hK _ ?_
                rfl
              refine ⟨fun us W' s HR hs hst K hK => ?_, ?_⟩
              · (try clear hst); (try clear hs)
                go_simp
                refine hK _ ?_
                rfl
              refine ⟨fun us W' s HR hs hst K hK => ?_, ?_⟩
              · (try clear hst); (try clear hs)
                go_simp
                refine hK _ ?_
                rfl
              refine ⟨fun us W' s HR hs hst K hK => ?_, ?_⟩
              · obtain rfl : s = 0 := Nat.le_zero.1 hs
                obtain rfl : W' = wd := hst
                have gc := hc0.out
                go_simp
                refine hK _ ?_
                rfl
              refine ⟨fun us W' HR hst K hK => ?_, ?_⟩
              · obtain rfl : W' = wd := hst
                go_simp
                exact hK _ _ trivial ⟨rfl, rfl⟩
              refine ⟨fun us W' HR hst K hK => ?_, ?_⟩
              · obtain ⟨e6, rfl⟩ : us 6 = _ ∧ W' = _ := hst
                simp only [e6] at hK ⊢
                have hrn : Reads (wd.alloc (.cells #[.int .u8 y] 5)) (wd.heap.size + 1) 1 (some ⟨wd.heap.size, 0, none⟩) 1 (nums .u8 [y]) := reads_new wd (nums .u8 [y]) 5 (0, 0) 1 rfl
                have hz3 : E + 1 ≤ (wd.alloc (.cells #[.int .u8 y] 5)).heap.size := by simp; omega
                rw [if_pos (by rfl)]
                refine wp_append_any _ (.tmp 85) (.tmp 90) _ (by rfl) (E + 1) 5 i0 _ 1 1 Try.underlying37 hi0 hy0 hy1 hy2 rfl Nat.one_pos (.slice A' j c') _ _ (by rfl) (hownd.alloc _) _ _ _ _ _ (by rfl) hrn (nums_one _ _) cA (by omega) hz3 ?_
                intro A5 c5 w5 hO5 hb5
                rw [← nums_app] at hO5
                exact hK _ _ trivial ⟨A5, c5, rfl, hO5, ((Below.refl (E + 1) wd).alloc hEd _).trans hb5⟩
              refine ⟨fun us W' s HR hs hst K hK => ?_, ?_⟩
              · (try clear hst); (try clear hs)
                go_simp
                refine hK _ ?_
                rfl
              refine ⟨fun us W' HR hst K hK => ?_, ?_⟩
              · obtain ⟨A3, c3, e7, hO3, hb3⟩ : ∃ A3 c3, us 7 = _ ∧ _ := hst
                simp only [e7] at hK ⊢
                have hG3 := hGd.below hb3 (Nat.lt_succ_self E)
                have hQ3 := hQd.up hb3 (Nat.lt_succ_of_lt hCE)
                have g3 := hG3.cell (i := 2) rfl
                have f3 := hG3.free 2
                have hG4 := hG3.set 2 (.slice A3 (j + 1) c3)
                have hO4 := own_set (o := 2) hO3 (Nat.lt_succ_self E) (.slice A3 (j + 1) c3)
                have hQ4 : MQ w (W'.setCell ⟨E, 2, none⟩ (.slice A3 (j + 1) c3)) C := ⟨hQ3.res.other (by show C ≠ E; omega) _, hQ3.below.setCell (by show C ≤ E; omega) _⟩
                have hE4 : E + 1 ≤ (W'.setCell ⟨E, 2, none⟩ (.slice A3 (j + 1) c3)).heap.size := by have := hG4.lt; omega
                replace hG4 := Lib.hid hG4
                replace hO4 := Lib.hid hO4
                replace hQ4 := Lib.hid hQ4
                replace hE4 := Lib.hid hE4
                clear hO3 hG3 hQ3 hb3
                go_simp
                exact hK undef _ trivial ⟨hQ4.out, hE4.out, A3, c3, hG4.out, hO4.out⟩
              trivial
            case hendc =>
              intro us W' HR hst
              obtain ⟨hQ5, hE5, A3, c3, hG5, hO5⟩ : _ ∧ _ ∧ ∃ A3 c3, _ := hst
              clear HR hc0 hQd hGd hownd hEd hbd
              go_wp2_with fail
              go_roundw
              case rel => exact ⟨j + 1, a + 1, zs ++ [y], A3, c3, by omega, by omega, by go_num, by go_num, hQ5, hG5, hO5, hE5, by show TLink _ _ _ _; rw [show PW - ((j + 1 : Nat) : Int) = (i : Int) by omega]; exact HT2.out⟩
              case measure => simp [intOf]; omega
          · skip
            obtain ⟨i, hi⟩ : ∃ i : Nat, PW - (j : Int) = (i : Int) + 1 := ⟨(PW - j - 1).toNat, by omega⟩
            have HT1 : Hid (TLink (rtiles PW.toNat (.ok (l.drop a2))) zs ((i : Int) + 1) (.ok (l.drop a))) := by show TLink _ _ _ _; rw [← hi]; exact HT.out
            have HE := Lib.hid (parse_bad (l := l) (e := 11) (by rw [hHead.out]; exact tiles_none HT1.out (by rw [hll.out]; omega)))
            obtain rfl : a = n := by omega
            clear HT HT1 hHead hFin hG hown hr1
            have r0 := hQ.res.cell (i := 0) rfl
            have r1 := hQ.res.cell (i := 1) rfl
            have r2 := hQ.res.cell (i := 2) rfl
            have f0 := hQ.res.free 0
            have f1 := hQ.res.free 1
            have f2 := hQ.res.free 2
            have hz := Lib.hid (((hQ.res.set 0 (.int .i64 0)).set 1 (.int .i64 0)).set 2 (.slice none 0 0))
            have hzb := Lib.hid (((hQ.below.setCell (p := ⟨C, 0, none⟩) (Nat.le_refl C) (.int .i64 0)).setCell (p := ⟨C, 1, none⟩) (Nat.le_refl C) (.int .i64 0)).setCell (p := ⟨C, 2, none⟩) (Nat.le_refl C) (.slice none 0 0))
            replace hQ := Lib.hid hQ
            go_wp2_with fail
            clear r0 r1 r2 f0 f1 f2
            generalize ((wr.setCell ⟨C, 0, none⟩ (.int .i64 0)).setCell ⟨C, 1, none⟩ (.int .i64 0)).setCell ⟨C, 2, none⟩ (.slice none 0 0) = wz at *
            have r0 := hz.out.cell (i := 0) rfl
            have r1 := hz.out.cell (i := 1) rfl
            have r2 := hz.out.cell (i := 2) rfl
            refine bodyPost_ret (v := .tuple #[.agg #[.int .i64 0, .int .i64 0, .slice none 0 0], .int .i64 11]) (by simp [results, Try.results49, go_sem, r0, r1, r2]) rfl ?_
            rw [HE.out]
            exact ⟨none, 0, rfl, World.ownsRow_nil _ _ _ _, by rw [hC.out]; exact hzb.out⟩
        · skip
          have hPj : PW - (j : Int) = 0 := by omega
          have HT0 : TLink (rtiles PW.toNat (.ok (l.drop a2))) zs 0 (.ok (l.drop a)) := by have := HT.out; rwa [hPj] at this
          have HF := Lib.hid (hFin.out zs a HT0 (by rw [hll.out]; exact han))
          have hac : a ≤ c := Nat.le_trans han hnc
          have hr0 := hr1.first han
          have hba : IsBytes (l.take a) := fun x hx => hb x (List.mem_of_mem_take hx)
          have CS := Lib.hid (ref_sum fstart A a c _ (l.take a) wr hr0 hba (by unfold maxLen; omega))
          have hf := fsum_range fstart (l.take a) (by unfold fstart; decide)
          have C8 := Lib.hid (ref_eight (fsum fstart (l.take a)) wr hf.1 hf.2)
          have h8 := eight_len (fsum fstart (l.take a))
          have hbs := eightL_bytes 8 (fsum fstart (l.take a))
          have e8 : eightL 8 (fsum fstart (l.take a)) = eight (fsum fstart (l.take a)) := rfl
          rw [e8] at hbs
          generalize fsum fstart (l.take a) = x8 at *
          generalize hs8 : eight x8 = s8 at *
          replace hs8 := Lib.hid hs8
          unfold GivesBytes at C8
          rw [h8] at C8
          replace h8 := Lib.hid h8
          have hn00 : (0 : Int) ≤ (a : Int) := by omega
          clear hPj HT0 HT hHead hFin hr0 hba hf hr1
          go_wp2_with fail
          refine Calls.mono CS.out ?_
          rintro e w3 ⟨rfl, rfl⟩
          clear CS
          go_wp2_with fail
          refine Calls.mono C8.out ?_
          rintro e w3 ⟨A8, c8, rfl, hO8, hb8⟩
          clear C8
          have hQ3 := hQ.up hb8 hQ.res.lt
          have hG3 := hG.below hb8 hG.lt
          have hO3 := own_below hown hb8
          have hE3 := Nat.le_trans hE hb8.size
          have hE8 : E + 1 ≤ wr.heap.size := hE
          generalize wr.heap.size = E8 at *
          clear hQ hG hown hE hb8
          go_wp2_with fail
          go_loopw [14, 9] (fun v14 v9 wr => ∃ (k b' : Nat), k ≤ 8 ∧ b' ≤ n ∧ v14 = .int .i64 (k : Int) ∧ v9 = .int .i64 (b' : Int) ∧ MQ w wr C ∧ Blk wr E #[.int .i64 W, .int .i64 H, .slice A' j c'] 39 ∧ wr.ownsRow (E + 1) 5 1 (.slice A' j c') j (nums .u8 zs) ∧ E + 1 ≤ wr.heap.size ∧ wr.ownsRow E8 5 1 (.slice A8 8 c8) 8 (nums .u8 s8) ∧ Hid (rsame s8 (.ok (l.drop a)) = rsame (s8.drop k) (.ok (l.drop b')))) (fun v14 _ _ => 8 - (intOf v14).toNat)
          case atStart => exact ⟨0, a, by omega, han, rfl, rfl, hQ3, hG3, hO3, hE3, hO8, rfl⟩
          clear hQ3 hG3 hO3 hE3 hO8
          case round =>
            obtain ⟨k, b', hk8, hbn, rfl, rfl, hQ, hG, hO, hE, hO8, HS⟩ := hrel
            have hr1 := (hr.more hB).below hQ.below
            by_cases hlt : k < 8
            · have hkc : k < s8.length := by rw [h8.out]; exact hlt
              by_cases hkl : b' < n
              · obtain ⟨_, b, o, rfl, hbb, hcc⟩ := hr1.num hkl
                obtain ⟨g8, rfl, hg8, hg8', hc2, _⟩ := own_at hO8 hlt
                have hkl' : b' < l.length := by rw [hll.out]; exact hkl
                have HN := Lib.hid (fun h => same_next2 hkc hkl' h)
                have HX := Lib.hid (fun h => same_ne2 hkc hkl' h)
                have hbb' : b < wr.heap.size := by have := hQ.res.lt; omega
                clear hkl' hkc hr1
                generalize l.getD b' 0 = x at *
                generalize s8.getD k 0 = y at *
                replace hcc := Lib.hid hcc
                replace hc2 := Lib.hid hc2
                have hxy : x = y ∨ (¬ x = y ∧ (x != y) = true) := by by_cases h : x = y; exact .inl h; exact .inr ⟨h, by simpa using h⟩
                rcases hxy with rfl | ⟨hne, hd⟩
                · replace HS := Lib.hid (HS.out.trans (HN.out rfl))
                  clear HN HX
                  go_wp2_with fail
                  refine' wp_region_grow [Fact.val _, Fact.val _, Fact.val _, Fact.val _, Fact.val _, Fact.val _, Fact.val _, Fact.val _, Fact.val _] (A := _) ?hAr (by kernel_rfl) (by kernel_rfl) ?stepsr ?hendr
                  case hAr =>
                    intro us X hX
                    simp only [fillF, Act.put, List.setIfInBounds_toArray, List.set_cons_zero, List.set_cons_succ, Nat.reduceAdd]
                    (try go_simp)
                    exact hX
                  case stepsr =>
                    refine ⟨fun us WW HB hd K hK => ?_, ?_⟩
                    · clear hd
                      have g0 := (HB.cell hbb').trans hcc.out
                      have g1 := (HB.cell hg8').trans hc2.out
                      go_simp
                      refine hK _ _ (Below.refl _ _) ?_
                      (show _ = _); rfl
                    refine ⟨fun us WW HB hd K hK => ?_, ?_⟩
                    · clear hd
                      have g0 := (HB.cell hbb').trans hcc.out
                      have g1 := (HB.cell hg8').trans hc2.out
                      go_simp
                      refine hK _ _ (Below.refl _ _) ?_
                      (show _ = _); rfl
                    refine ⟨fun us WW HB hd K hK => ?_, ?_⟩
                    · clear hd
                      have g0 := (HB.cell hbb').trans hcc.out
                      have g1 := (HB.cell hg8').trans hc2.out
                      go_simp
                      refine hK _ _ (Below.refl _ _) ?_
                      (show _ = _); rfl
                    refine ⟨fun us WW HB hd K hK => ?_, ?_⟩
                    · clear hd
                      have g0 := (HB.cell hbb').trans hcc.out
                      have g1 := (HB.cell hg8').trans hc2.out
                      go_simp
                      refine hK _ _ (Below.refl _ _) ?_
                      (show _ = _); rfl
                    refine ⟨fun us WW HB hd K hK => ?_, ?_⟩
                    · clear hd
                      have g0 := (HB.cell hbb').trans hcc.out
                      have g1 := (HB.cell hg8').trans hc2.out
                      go_simp
                      refine hK _ _ (Below.refl _ _) ?_
                      (show _ = _); rfl
                    refine ⟨fun us WW HB hd K hK => ?_, ?_⟩
                    · clear hd
                      have g0 := (HB.cell hbb').trans hcc.out
                      have g1 := (HB.cell hg8').trans hc2.out
                      go_simp
                      refine hK _ _ (Below.refl _ _) ?_
                      (show _ = _); rfl
                    refine ⟨fun us WW HB hd K hK => ?_, ?_⟩
                    · clear hd
                      have g0 := (HB.cell hbb').trans hcc.out
                      have g1 := (HB.cell hg8').trans hc2.out
                      go_simp
                      refine hK _ _ (Below.refl _ _) ?_
                      (show _ = _); rfl
                    refine ⟨fun us WW HB hd K hK => ?_, ?_⟩
                    · clear hd
                      have g0 := (HB.cell hbb').trans hcc.out
                      have g1 := (HB.cell hg8').trans hc2.out
                      go_simp
                      refine hK _ _ (Below.refl _ _) ?_
                      (show _ = _); rfl
                    refine ⟨fun us WW HB hd K hK => ?_, ?_⟩
                    · clear hd
                      have g0 := (HB.cell hbb').trans hcc.out
                      have g1 := (HB.cell hg8').trans hc2.out
                      go_simp
                      refine hK _ _ (Below.refl _ _) ?_
                      (show _ = _); rfl
                    trivial
                  case hendr =>
                    intro us WW HB hd
                    clear hd
                    have hQ2 := hQ.up HB hQ.res.lt
                    have hG2 := hG.below HB hG.lt
                    have hO2 := own_below hO HB
                    have hE2 := Nat.le_trans hE HB.size
                    have hO82 := own_below hO8 HB
                    clear HB hQ hG hO hE hO8 hcc hc2
                    go_wp2_with fail
                    go_roundw
                    case rel => exact ⟨k + 1, b' + 1, by omega, by omega, by go_num, by go_num, hQ2, hG2, hO2, hE2, hO82, HS⟩
                    case measure => simp [intOf]; omega
                · have HE : Hid (parseG l = ((0, 0, []), 1)) := by show _ = _; rw [HF.out, HS.out.trans (HX.out hne)]; rfl
                  clear HN HX
                  go_wp2_with fail
                  refine' wp_region_grow [Fact.val _, Fact.val _, Fact.val _, Fact.val _, Fact.val _, Fact.val _, Fact.val _, Fact.val _, Fact.val _] (A := _) ?hAs (by kernel_rfl) (by kernel_rfl) ?stepss ?hends
                  case hAs =>
                    intro us X hX
                    simp only [fillF, Act.put, List.setIfInBounds_toArray, List.set_cons_zero, List.set_cons_succ, Nat.reduceAdd]
                    (try go_simp)
                    exact hX
                  case stepss =>
                    refine ⟨fun us WW HB hd K hK => ?_, ?_⟩
                    · clear hd
                      have g0 := (HB.cell hbb').trans hcc.out
                      have g1 := (HB.cell hg8').trans hc2.out
                      go_simp
                      refine hK _ _ (Below.refl _ _) ?_
                      (show _ = _); rfl
                    refine ⟨fun us WW HB hd K hK => ?_, ?_⟩
                    · clear hd
                      have g0 := (HB.cell hbb').trans hcc.out
                      have g1 := (HB.cell hg8').trans hc2.out
                      go_simp
                      refine hK _ _ (Below.refl _ _) ?_
                      (show _ = _); rfl
                    refine ⟨fun us WW HB hd K hK => ?_, ?_⟩
                    · clear hd
                      have g0 := (HB.cell hbb').trans hcc.out
                      have g1 := (HB.cell hg8').trans hc2.out
                      go_simp
                      refine hK _ _ (Below.refl _ _) ?_
                      (show _ = _); rfl
                    refine ⟨fun us WW HB hd K hK => ?_, ?_⟩
                    · clear hd
                      have g0 := (HB.cell hbb').trans hcc.out
                      have g1 := (HB.cell hg8').trans hc2.out
                      go_simp
                      refine hK _ _ (Below.refl _ _) ?_
                      (show _ = _); rfl
                    refine ⟨fun us WW HB hd K hK => ?_, ?_⟩
                    · clear hd
                      have g0 := (HB.cell hbb').trans hcc.out
                      have g1 := (HB.cell hg8').trans hc2.out
                      go_simp
                      refine hK _ _ (Below.refl _ _) ?_
                      (show _ = _); rfl
                    refine ⟨fun us WW HB hd K hK => ?_, ?_⟩
                    · clear hd
                      have g0 := (HB.cell hbb').trans hcc.out
                      have g1 := (HB.cell hg8').trans hc2.out
                      go_simp
                      refine hK _ _ (Below.refl _ _) ?_
                      (show _ = _); rfl
                    refine ⟨fun us WW HB hd K hK => ?_, ?_⟩
                    · clear hd
                      have g0 := (HB.cell hbb').trans hcc.out
                      have g1 := (HB.cell hg8').trans hc2.out
                      go_simp
                      refine hK _ _ (Below.refl _ _) ?_
                      (show _ = _); rfl
                    refine ⟨fun us WW HB hd K hK => ?_, ?_⟩
                    · clear hd
                      have g0 := (HB.cell hbb').trans hcc.out
                      have g1 := (HB.cell hg8').trans hc2.out
                      go_simp
                      refine hK _ _ (Below.refl _ _) ?_
                      (show _ = _); rfl
                    refine ⟨fun us WW HB hd K hK => ?_, ?_⟩
                    · clear hd
                      have g0 := (HB.cell hbb').trans hcc.out
                      have g1 := (HB.cell hg8').trans hc2.out
                      go_simp
                      refine hK _ _ (Below.refl _ _) ?_
                      (show _ = _); rfl
                    trivial
                  case hends =>
                    intro us WW HB hd
                    clear hd
                    replace hQ := hQ.up HB hQ.res.lt
                    clear HB hG hO hO8 hcc hc2
                    have r0 := hQ.res.cell (i := 0) rfl
                    have r1 := hQ.res.cell (i := 1) rfl
                    have r2 := hQ.res.cell (i := 2) rfl
                    have f0 := hQ.res.free 0
                    have f1 := hQ.res.free 1
                    have f2 := hQ.res.free 2
                    have hz := Lib.hid (((hQ.res.set 0 (.int .i64 0)).set 1 (.int .i64 0)).set 2 (.slice none 0 0))
                    have hzb := Lib.hid (((hQ.below.setCell (p := ⟨C, 0, none⟩) (Nat.le_refl C) (.int .i64 0)).setCell (p := ⟨C, 1, none⟩) (Nat.le_refl C) (.int .i64 0)).setCell (p := ⟨C, 2, none⟩) (Nat.le_refl C) (.slice none 0 0))
                    replace hQ := Lib.hid hQ
                    go_wp2_with fail
                    clear r0 r1 r2 f0 f1 f2
                    generalize ((WW.setCell ⟨C, 0, none⟩ (.int .i64 0)).setCell ⟨C, 1, none⟩ (.int .i64 0)).setCell ⟨C, 2, none⟩ (.slice none 0 0) = wz at *
                    have r0 := hz.out.cell (i := 0) rfl
                    have r1 := hz.out.cell (i := 1) rfl
                    have r2 := hz.out.cell (i := 2) rfl
                    refine bodyPost_ret (v := .tuple #[.agg #[.int .i64 0, .int .i64 0, .slice none 0 0], .int .i64 1]) (by simp [results, Try.results49, go_sem, r0, r1, r2]) rfl ?_
                    rw [HE.out]
                    exact ⟨none, 0, rfl, World.ownsRow_nil _ _ _ _, by rw [hC.out]; exact hzb.out⟩
              · have HE : Hid (parseG l = ((0, 0, []), 11)) := by show _ = _; rw [HF.out, HS.out.trans (same_none2 hkc (by rw [hll.out]; omega))]; rfl
                obtain rfl : b' = n := by omega
                clear hG hO hO8 hr1
                have r0 := hQ.res.cell (i := 0) rfl
                have r1 := hQ.res.cell (i := 1) rfl
                have r2 := hQ.res.cell (i := 2) rfl
                have f0 := hQ.res.free 0
                have f1 := hQ.res.free 1
                have f2 := hQ.res.free 2
                have hz := Lib.hid (((hQ.res.set 0 (.int .i64 0)).set 1 (.int .i64 0)).set 2 (.slice none 0 0))
                have hzb := Lib.hid (((hQ.below.setCell (p := ⟨C, 0, none⟩) (Nat.le_refl C) (.int .i64 0)).setCell (p := ⟨C, 1, none⟩) (Nat.le_refl C) (.int .i64 0)).setCell (p := ⟨C, 2, none⟩) (Nat.le_refl C) (.slice none 0 0))
                replace hQ := Lib.hid hQ
                go_wp2_with fail
                clear r0 r1 r2 f0 f1 f2
                generalize ((wr.setCell ⟨C, 0, none⟩ (.int .i64 0)).setCell ⟨C, 1, none⟩ (.int .i64 0)).setCell ⟨C, 2, none⟩ (.slice none 0 0) = wz at *
                have r0 := hz.out.cell (i := 0) rfl
                have r1 := hz.out.cell (i := 1) rfl
                have r2 := hz.out.cell (i := 2) rfl
                refine bodyPost_ret (v := .tuple #[.agg #[.int .i64 0, .int .i64 0, .slice none 0 0], .int .i64 11]) (by simp [results, Try.results49, go_sem, r0, r1, r2]) rfl ?_
                rw [HE.out]
                exact ⟨none, 0, rfl, World.ownsRow_nil _ _ _ _, by rw [hC.out]; exact hzb.out⟩
            · obtain rfl : k = 8 := by omega
              have HS2 : Hid (rsame s8 (.ok (l.drop a)) = .ok (l.drop b')) := by show _ = _; rw [HS.out, List.drop_of_length_le (by rw [h8.out]; exact Nat.le_refl _)]; rfl
              clear HS hr1 hO8
              by_cases hbe : b' = n
              · subst hbe
                have HE : Hid (parseG l = ((W, H, zs), 0)) := by show _ = _; rw [HF.out, HS2.out, List.drop_of_length_le (by rw [hll.out]; exact Nat.le_refl _)]; rfl
                have dd : ((b' : Int) != (b' : Int)) = false := by simp
                have hCE2 : C < E := hCE
                have g0 := hG.cell (i := 0) rfl
                have g1 := hG.cell (i := 1) rfl
                have g2 := hG.cell (i := 2) rfl
                have r0 := hQ.res.cell (i := 0) rfl
                have r1 := hQ.res.cell (i := 1) rfl
                have r2 := hQ.res.cell (i := 2) rfl
                have f0 := hQ.res.free 0
                have f1 := hQ.res.free 1
                have f2 := hQ.res.free 2
                have hz := Lib.hid (((hQ.res.set 0 (.int .i64 W)).set 1 (.int .i64 H)).set 2 (.slice A' j c'))
                have hzb := Lib.hid (((hQ.below.setCell (p := ⟨C, 0, none⟩) (Nat.le_refl C) (.int .i64 W)).setCell (p := ⟨C, 1, none⟩) (Nat.le_refl C) (.int .i64 H)).setCell (p := ⟨C, 2, none⟩) (Nat.le_refl C) (.slice A' j c'))
                have hzo := Lib.hid (own_set (o := 2) (own_set (o := 1) (own_set (o := 0) hO (show C < E + 1 by omega) (.int .i64 W)) (show C < E + 1 by omega) (.int .i64 H)) (show C < E + 1 by omega) (.slice A' j c'))
                have hzl := Lib.hid (own_nums hO)
                clear hQ hG hO
                go_wp2_with fail
                clear r0 r1 r2 f0 f1 f2 g0 g1 g2
                generalize ((wr.setCell ⟨C, 0, none⟩ (.int .i64 W)).setCell ⟨C, 1, none⟩ (.int .i64 H)).setCell ⟨C, 2, none⟩ (.slice A' j c') = wz at *
                have r0 := hz.out.cell (i := 0) rfl
                have r1 := hz.out.cell (i := 1) rfl
                have r2 := hz.out.cell (i := 2) rfl
                refine bodyPost_ret (v := .tuple #[.agg #[.int .i64 W, .int .i64 H, .slice A' j c'], .int .i64 0]) (by simp [results, Try.results49, go_sem, r0, r1, r2]) rfl ?_
                rw [HE.out]
                refine ⟨A', c', by rw [← hzl.out], ?_, by rw [hC.out]; exact hzb.out⟩
                have := own_mono hzo.out (show C ≤ E + 1 by omega)
                rw [hzl.out] at this
                rw [hC.out]
                exact this
              · have HE : Hid (parseG l = ((0, 0, []), 1)) := by
                  show _ = _
                  rw [HF.out, HS2.out, drop_cons (show b' < l.length by rw [hll.out]; omega)]
                  rfl
                have dd : ((b' : Int) != (n : Int)) = true := by simpa using (show ¬ (b' : Int) = (n : Int) by omega)
                clear hG hO
                have r0 := hQ.res.cell (i := 0) rfl
                have r1 := hQ.res.cell (i := 1) rfl
                have r2 := hQ.res.cell (i := 2) rfl
                have f0 := hQ.res.free 0
                have f1 := hQ.res.free 1
                have f2 := hQ.res.free 2
                have hz := Lib.hid (((hQ.res.set 0 (.int .i64 0)).set 1 (.int .i64 0)).set 2 (.slice none 0 0))
                have hzb := Lib.hid (((hQ.below.setCell (p := ⟨C, 0, none⟩) (Nat.le_refl C) (.int .i64 0)).setCell (p := ⟨C, 1, none⟩) (Nat.le_refl C) (.int .i64 0)).setCell (p := ⟨C, 2, none⟩) (Nat.le_refl C) (.slice none 0 0))
                replace hQ := Lib.hid hQ
                go_wp2_with fail
                clear r0 r1 r2 f0 f1 f2
                generalize ((wr.setCell ⟨C, 0, none⟩ (.int .i64 0)).setCell ⟨C, 1, none⟩ (.int .i64 0)).setCell ⟨C, 2, none⟩ (.slice none 0 0) = wz at *
                have r0 := hz.out.cell (i := 0) rfl
                have r1 := hz.out.cell (i := 1) rfl
                have r2 := hz.out.cell (i := 2) rfl
                refine bodyPost_ret (v := .tuple #[.agg #[.int .i64 0, .int .i64 0, .slice none 0 0], .int .i64 1]) (by simp [results, Try.results49, go_sem, r0, r1, r2]) rfl ?_
                rw [HE.out]
                exact ⟨none, 0, rfl, World.ownsRow_nil _ _ _ _, by rw [hC.out]; exact hzb.out⟩
end Go.Proofs.Ytdcilabbjejklaa
