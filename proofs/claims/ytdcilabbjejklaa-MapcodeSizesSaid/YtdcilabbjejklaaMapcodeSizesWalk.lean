/- The walk of the law MapcodeSizes. -/
import Derived.Test.YtdcilabbjejklaaMapTurn
import Derived.Test.YtdcilabbjejklaaMapOpen
import Derived.Laws.OwnMore
namespace Go.Proofs.Ytdcilabbjejklaa
set_option maxRecDepth 20000
open Go.RowKit Go.WideShapes Go.ChangeShapes

def zrow (n : Nat) : Array Value := madeCells #[.int .u8 0] (n * 1)
theorem make_row (n : Nat) (w : World) (h : n ≤ 100000) : (Instr.makeSlice 37 (.int .i64 (n : Int)) (.int .i64 (n : Int))).run Try.prog w = .ok (.slice (some ⟨w.heap.size, 0, none⟩) n n) (w.alloc (.cells (zrow n) 5)) := by
  obtain ⟨i0, hi0, hz0, hz1, hz2⟩ := info_parts info_u8
  have := run_make (P := Try.prog) w 37 5 i0 _ Try.underlying37 hi0 hz0 .i64 .i64 (n : Int) (n : Int) (by omega) (Int.le_refl _) (by rw [hz2]; omega) (by omega)
  rw [hz1] at this
  simpa [zrow, show (Value.int .u8 0).cells = #[Value.int .u8 0] from rfl] using this
theorem zrow_nums (n : Nat) : (zrow n).toList = nums .u8 (List.replicate n 0) := by
  unfold zrow madeCells nums
  refine List.ext_getElem (by simp) fun i h1 h2 => ?_
  simp [Nat.mod_one]
theorem own_made (w : World) (n : Nat) (h : n ≤ 100000) : (w.alloc (.cells (zrow n) 5)).ownsRow w.heap.size 5 1 (.slice (some ⟨w.heap.size, 0, none⟩) n n) n (nums .u8 (List.replicate n 0)) := by
  have := World.ownsRow_lit (e := 5) (size := 1) w (zrow n) n (Nat.le_refl _) (by unfold maxLen; omega) (size_madeCells _ _)
  rwa [zrow_nums] at this

theorem own_other {w : World} {base : Nat} {e : TypeId} {size n : Nat} {v : Value} {xs : List Value} (h : w.ownsRow base e size v n xs) {b o : Nat} (hb : ¬ base ≤ b) (u : Value) : (w.setCell ⟨b, o, none⟩ u).ownsRow base e size v n xs := by
  refine ⟨h.1, ?_⟩
  rcases h.2 with hn | ⟨g, cap, cur, hv, hg, hh, r⟩
  · exact .inl hn
  · exact .inr ⟨g, cap, cur, hv, hg, by rw [Below.heap_setCell _ _ _ _ (by show g ≠ b; omega)]; exact hh, r⟩

namespace lawMapcodeSizes
set_option maxHeartbeats 6400000 in
set_option maxRecDepth 100000 in
theorem walk {H : Type} {enc : TypeId × Value → H} (w : World) {base : Nat} (v : Value) (d : DataW H) (p : List MemPlace) (hv : Value.okWide Try.prog w .any base 63 v)
    (ht : DataW.Trod enc Try.prog w 0 (fun _ => true) true 63 v d p) : Calls Try.prog 14 #[v] w fun e w' => e = .returned (.bool true) ∧ Below w.heap.size w w' := by
  obtain ⟨A, n, c, rfl, hnc, hcm, ha⟩ := open_asks7 hv ht
  unfold maxLen at hcm
  clear hv ht ha
  obtain ⟨N, hN⟩ : ∃ N : Nat, N = 16384 := ⟨_, rfl⟩
  obtain ⟨M, hM⟩ : ∃ M : Nat, M = 129 := ⟨_, rfl⟩
  have hmk : ∀ w, (Instr.makeSlice 37 (.int .i64 16384) (.int .i64 16384)).run Try.prog w = .ok (.slice (some ⟨w.heap.size, 0, none⟩) N N) (w.alloc (.cells (zrow N) 5)) := fun w => by subst hN; exact make_row 16384 w (by decide)
  have hmk2 : ∀ w, (Instr.makeSlice 37 (.int .i64 129) (.int .i64 129)).run Try.prog w = .ok (.slice (some ⟨w.heap.size, 0, none⟩) M M) (w.alloc (.cells (zrow M) 5)) := fun w => by subst hM; exact make_row 129 w (by decide)
  replace hN := Lib.hid hN
  replace hM := Lib.hid hM
  have hO := own_made w N (by have := hN.out; omega)
  have hX := Blk.new (w.alloc (.cells (zrow N) 5)) #[.int .i64 128, .int .i64 128, .slice (some ⟨w.heap.size, 0, none⟩) N N] 39
  have hbl : Below w.heap.size w ((w.alloc (.cells (zrow N) 5)).alloc (.cells #[.int .i64 128, .int .i64 128, .slice (some ⟨w.heap.size, 0, none⟩) N N] 39)) := ((Below.refl _ _).alloc (Nat.le_refl _) _).alloc (by simp) _
  replace hO := hO.alloc (.cells #[.int .i64 128, .int .i64 128, .slice (some ⟨w.heap.size, 0, none⟩) N N] 39)
  rw [show (w.alloc (.cells (zrow N) 5)).heap.size = w.heap.size + 1 by simp] at hX
  go_enter Try.func14, Try.ntmps14
  go_wp2_with fail
  generalize (w.alloc (.cells (zrow N) 5)).alloc (.cells #[.int .i64 128, .int .i64 128, .slice (some ⟨w.heap.size, 0, none⟩) N N] 39) = w1 at *
  generalize hXe : w.heap.size + 1 = X at *
  generalize hGe : w.heap.size = g at *
  have hgX : g < X := by omega
  clear hXe
  -- behind
  have gok : ∀ l : List Int, l.length = N → (∀ x ∈ l, x ≤ 5) → okG 128 128 l := fun l hl hx => ⟨by omega, by omega, by rw [hl, hN.out]; rfl, hx⟩
  have glen : ∀ l : List Int, l.length = N → (encG 128 128 l).length = N + 14 := fun l hl => by
    have h1 := side_len (n := 128) (by omega) (by omega)
    rw [if_neg (by omega)] at h1
    simp only [encG, headG, List.length_append, eight_len, List.length_cons, List.length_nil]
    omega
  have hl0 : (List.replicate N (0 : Int)).length = N := List.length_replicate
  have hb0 : IsBytes (List.replicate N (0 : Int)) := fun x hx => by rw [List.eq_of_mem_replicate hx]; omega
  have hm0 : ∀ x ∈ (List.replicate N (0 : Int)), x ≤ 5 := fun x hx => by rw [List.eq_of_mem_replicate hx]; omega
  have hs1 : ∀ (v : Int) (l : List Int), IsBytes l → 0 ≤ v ∧ v ≤ 255 → IsBytes (l.set 77 v) := fun v l hl hv x hx => by
    rcases List.mem_or_eq_of_mem_set hx with hx | rfl
    · exact hl x hx
    · exact hv
  have hm1 : ∀ x ∈ (List.replicate N (0 : Int)).set 77 5, x ≤ 5 := fun x hx => by
    rcases List.mem_or_eq_of_mem_set hx with hx | rfl
    · exact hm0 x hx
    · exact Int.le_refl _
  have hN' : N = 16384 := hN.out
  have h77 : (77 : Int) < (N : Int) := by omega
  have hbad : isG 128 128 (((List.replicate N (0 : Int)).set 77 5).set 77 6) = false := by
    refine decide_eq_false fun h => ?_
    have := h.2.2.2.2.2 6 (List.mem_of_getElem? (i := 77) (List.getElem?_set_self (by rw [List.length_set]; omega)))
    omega
  have hback : (((List.replicate N (0 : Int)).set 77 5).set 77 6).set 77 0 = (List.replicate N (0 : Int)) := by rw [List.set_set, List.set_set]; exact List.set_replicate_self
  have hbad1 : isG 129 1 (List.replicate M (0 : Int)) = false := decide_eq_false fun h => by have := h.2.1; omega
  have hbad2 : isG 0 0 [] = false := decide_eq_false fun h => by have := h.1; omega
  have P0 := parse_encG (gok _ hl0 hm0)
  have P1 := parse_encG (gok ((List.replicate N (0 : Int)).set 77 5) (by rw [List.length_set, hl0]) hm1)
  have hne : encG 128 128 (List.replicate N (0 : Int)) ≠ encG 128 128 ((List.replicate N (0 : Int)).set 77 5) := fun e => by
    rw [e, P1] at P0
    injection P0 with P0
    injection P0 with _ P0
    injection P0 with _ P0
    have := congrArg (fun l : List Int => l[77]?) P0
    simp only [List.getElem?_set_self (show 77 < (List.replicate N (0 : Int)).length by omega), List.getElem?_replicate] at this
    rw [if_pos (by omega)] at this
    cases this
  clear P1
  have hz0 := glen _ hl0
  have hz1 := glen ((List.replicate N (0 : Int)).set 77 5) (by rw [List.length_set, hl0])
  have hzb0 := enc_bytes 128 128 hb0
  have I0 := isG_of (gok _ hl0 hm0)
  have I1 := isG_of (gok ((List.replicate N (0 : Int)).set 77 5) (by rw [List.length_set, hl0]) hm1)
  have B1 := hs1 5 _ hb0 (by omega)
  have B2 := hs1 6 _ B1 (by omega)
  have CC := Lib.hid (fun (B : Nat) (W : World) (h : Reads W B 1 (some ⟨g, 0, none⟩) N (nums .u8 (List.replicate N (0 : Int)))) (hB : B ≤ W.heap.size) => map_bytes 128 128 (some ⟨g, 0, none⟩) N N B _ W h hB hb0 I0)
  have CD := Lib.hid (fun (B : Nat) (W : World) (h : Reads W B 1 (some ⟨g, 0, none⟩) N (nums .u8 ((List.replicate N (0 : Int)).set 77 5))) (hB : B ≤ W.heap.size) => map_bytes 128 128 (some ⟨g, 0, none⟩) N N B _ W h hB B1 I1)
  have CE := Lib.hid (fun (B : Nat) (W : World) (h : Reads W B 1 (some ⟨g, 0, none⟩) N (nums .u8 (((List.replicate N (0 : Int)).set 77 5).set 77 6))) (hB : B ≤ W.heap.size) => map_bytes_no 128 128 (some ⟨g, 0, none⟩) N N B _ W h hB B2 hbad)
  generalize encG 128 128 (List.replicate N (0 : Int)) = z0 at *
  generalize encG 128 128 ((List.replicate N (0 : Int)).set 77 5) = z1 at *
  replace hback := Lib.hid hback
  replace hne := Lib.hid hne
  replace hz1 := Lib.hid hz1
  replace hz0 := Lib.hid hz0
  replace P0 := Lib.hid P0
  clear gok glen hs1 hm0 hm1 I0 I1 hbad hN'
  have hgX' : ¬ X = g := by omega
  have hg1 : g < w1.heap.size := by have := hX.lt; omega
  have C1 := Lib.hid (CC.out _ w1 (Reads.of_own hO) (Nat.le_refl _))
  refine Calls.mono C1.out ?_
  rintro e w2 ⟨A4, c4, rfl, hown4, hb2⟩
  clear C1 CC
  replace hX := hX.below hb2 hX.lt
  replace hO := own_below hO hb2
  replace hbl := hbl.trans (hb2.mono (by have := hbl.size; omega))
  clear hb2
  have hg2 : g < w2.heap.size := by have := hX.lt; omega
  have hcap4 := own_cap hown4
  have C2 := map_parse A4 z0.length c4 w2.heap.size z0 w2 ⟨Reads.of_own hown4, hzb0, hcap4.1, by have := hcap4.2; omega, Nat.le_refl _, by have := hz0.out; have := hN.out; omega⟩ (Nat.le_refl _)
  rw [P0.out] at C2
  unfold GivesG at C2
  simp only [List.length_replicate] at C2
  replace C2 := Lib.hid C2
  go_wp2_with fail
  refine Calls.mono C2.out ?_
  rintro e w3 ⟨A5, c5, rfl, hown5, hb3⟩
  clear C2
  replace hX := hX.below hb3 hX.lt
  replace hO := own_below hO hb3
  replace hown4 := own_below hown4 hb3
  replace hbl := hbl.trans (hb3.mono (by have := hbl.size; omega))
  clear hb3
  have hY := Blk.new w3 #[.int .i64 128, .int .i64 128, .slice A5 N c5] 39
  have hbY : Below w3.heap.size w3 (w3.alloc (.cells #[.int .i64 128, .int .i64 128, .slice A5 N c5] 39)) := (Below.refl _ _).alloc (Nat.le_refl _) _
  have hXw : X < w3.heap.size := hX.lt
  replace hX := hX.below hbY hX.lt
  replace hO := own_below hO hbY
  replace hown4 := own_below hown4 hbY
  replace hown5 := own_below hown5 hbY
  replace hbl := hbl.trans (hbY.mono (by have := hbl.size; omega))
  clear hbY
  have hO1 := own_store (k := 77) hO 5
  obtain ⟨g', hg', hgb, hgl, hc77, hf77⟩ := own_at (k := 77) hO (by omega)
  cases hg'
  have x2 := hX.cell (i := 2) rfl
  have hX1 := hX.other (a := ⟨g, 77, none⟩) hgX' (.int .u8 5)
  have y0 := hX1.cell (i := 0) rfl
  have y1 := hX1.cell (i := 1) rfl
  have y2 := hX1.cell (i := 2) rfl
  have hY1 := hY.other (a := ⟨g, 77, none⟩) (by show w3.heap.size ≠ g; omega) (.int .u8 5)
  have hbs := (Below.refl g (w3.alloc (.cells #[.int .i64 128, .int .i64 128, .slice A5 N c5] 39))).setCell (p := ⟨g, 77, none⟩) (Nat.le_refl g) (.int .u8 5)
  go_wp2_with fail
  replace hbl := hbl.trans hbs
  clear hO hX hY x2 hc77 hf77 y0 y1 y2 hbs
  have hown41 := own_other hown4 (show ¬ w1.heap.size ≤ g by omega) (.int .u8 5) (o := 77)
  have hown51 := own_other hown5 (show ¬ w2.heap.size ≤ g by omega) (.int .u8 5) (o := 77)
  clear hown4 hown5
  generalize (w3.alloc (.cells #[.int .i64 128, .int .i64 128, .slice A5 N c5] 39)).setCell ⟨g, 77, none⟩ (.int .u8 5) = w4 at *
  generalize w3.heap.size = Y at *
  have hg4 : g < w4.heap.size := by have := hX1.lt; omega
  have C3 := Lib.hid (CD.out _ w4 (Reads.of_own hO1) (Nat.le_refl _))
  refine Calls.mono C3.out ?_
  rintro e w5 ⟨A8, c8, rfl, hown8, hb5⟩
  clear C3 CD
  replace hX1 := hX1.below hb5 hX1.lt
  replace hY1 := hY1.below hb5 hY1.lt
  replace hO1 := own_below hO1 hb5
  replace hown41 := own_below hown41 hb5
  replace hown51 := own_below hown51 hb5
  replace hbl := hbl.trans (hb5.mono (by have := hbl.size; omega))
  clear hb5
  have CM := Lib.hid (fun (W : World) (h : Reads W (W.heap.size) 1 (some ⟨w5.heap.size, 0, none⟩) M (nums .u8 (List.replicate M (0 : Int)))) => map_bytes_no 129 1 (some ⟨w5.heap.size, 0, none⟩) M M _ _ W h (Nat.le_refl _) (fun x hx => by rw [List.eq_of_mem_replicate hx]; omega) hbad1)
  have hr6 := Reads.of_own (own_made w5 M (by have := hM.out; omega))
  have hbM : Below w5.heap.size w5 (w5.alloc (.cells (zrow M) 5)) := (Below.refl _ _).alloc (Nat.le_refl _) _
  go_wp2_with fail
  refine Calls.mono (CM.out _ hr6) ?_
  rintro e w6 ⟨rfl, hb6⟩
  replace hb6 := hbM.trans (hb6.mono hbM.size)
  clear hbM CM hr6
  replace hX1 := hX1.below hb6 hX1.lt
  replace hY1 := hY1.below hb6 hY1.lt
  replace hO1 := own_below hO1 hb6
  replace hown41 := own_below hown41 hb6
  replace hown51 := own_below hown51 hb6
  replace hown8 := own_below hown8 hb6
  replace hbl := hbl.trans (hb6.mono (by have := hbl.size; omega))
  clear hb6
  have CN := Lib.hid (map_bytes_no 0 0 none 0 0 w6.heap.size [] w6 Reads.none_ (Nat.le_refl _) (fun x hx => by cases hx) hbad2)
  go_wp2_with fail
  refine Calls.mono CN.out ?_
  rintro e w7 ⟨rfl, hb7⟩
  clear CN
  replace hX1 := hX1.below hb7 hX1.lt
  replace hY1 := hY1.below hb7 hY1.lt
  replace hO1 := own_below hO1 hb7
  replace hown41 := own_below hown41 hb7
  replace hown51 := own_below hown51 hb7
  replace hown8 := own_below hown8 hb7
  replace hbl := hbl.trans (hb7.mono (by have := hbl.size; omega))
  clear hb7
  have hgY : ¬ Y = g := by omega
  have hs2 := own_store (k := 77) hO1 6
  obtain ⟨g', hg', _, hgl2, hc77, hf77⟩ := own_at (k := 77) hO1 (by omega)
  cases hg'
  have x2 := hX1.cell (i := 2) rfl
  have hX2 := hX1.other (a := ⟨g, 77, none⟩) hgX' (.int .u8 6)
  have hY2 := hY1.other (a := ⟨g, 77, none⟩) hgY (.int .u8 6)
  have y0 := hX2.cell (i := 0) rfl
  have y1 := hX2.cell (i := 1) rfl
  have y2 := hX2.cell (i := 2) rfl
  have u0 := hY2.cell (i := 0) rfl
  have u1 := hY2.cell (i := 1) rfl
  have u2 := hY2.cell (i := 2) rfl
  have hbs := (Below.refl g w7).setCell (p := ⟨g, 77, none⟩) (Nat.le_refl g) (.int .u8 6)
  have hO2 := hs2
  clear hs2
  have hown42 := own_other hown41 (show ¬ w1.heap.size ≤ g by omega) (.int .u8 6) (o := 77)
  have hown52 := own_other hown51 (show ¬ w2.heap.size ≤ g by omega) (.int .u8 6) (o := 77)
  have hown82 := own_other hown8 (show ¬ w4.heap.size ≤ g by omega) (.int .u8 6) (o := 77)
  
  go_wp2_with fail
  replace hbl := hbl.trans hbs
  clear hO1 hX1 hY1 x2 hc77 hf77 y0 y1 y2 u0 u1 u2 hbs hown41 hown51 hown8
  generalize (w7).setCell ⟨g, 77, none⟩ (.int .u8 6) = w8 at *
  have C9 := Lib.hid (CE.out _ w8 (Reads.of_own hO2) (Nat.le_refl _))
  refine Calls.mono C9.out ?_
  rintro e w9 ⟨rfl, hb9⟩
  clear C9 CE
  replace hX2 := hX2.below hb9 hX2.lt
  replace hY2 := hY2.below hb9 hY2.lt
  replace hO2 := own_below hO2 hb9
  replace hown42 := own_below hown42 hb9
  replace hown52 := own_below hown52 hb9
  replace hown82 := own_below hown82 hb9
  replace hbl := hbl.trans (hb9.mono (by have := hbl.size; omega))
  clear hb9
  have hs3 := own_store (k := 77) hO2 0
  obtain ⟨g', hg', _, hgl3, hc77, hf77⟩ := own_at (k := 77) hO2 (by omega)
  cases hg'
  have x2 := hX2.cell (i := 2) rfl
  have hX3 := hX2.other (a := ⟨g, 77, none⟩) hgX' (.int .u8 0)
  have hY3 := hY2.other (a := ⟨g, 77, none⟩) hgY (.int .u8 0)
  have y0 := hX3.cell (i := 0) rfl
  have y1 := hX3.cell (i := 1) rfl
  have y2 := hX3.cell (i := 2) rfl
  have u0 := hY3.cell (i := 0) rfl
  have u1 := hY3.cell (i := 1) rfl
  have u2 := hY3.cell (i := 2) rfl
  have hbs := (Below.refl g w9).setCell (p := ⟨g, 77, none⟩) (Nat.le_refl g) (.int .u8 0)
  have hO3 := hs3
  clear hs3
  have hown43 := own_other hown42 (show ¬ w1.heap.size ≤ g by omega) (.int .u8 0) (o := 77)
  have hown53 := own_other hown52 (show ¬ w2.heap.size ≤ g by omega) (.int .u8 0) (o := 77)
  have hown83 := own_other hown82 (show ¬ w4.heap.size ≤ g by omega) (.int .u8 0) (o := 77)
  
  go_wp2_with fail
  replace hbl := hbl.trans hbs
  clear hO2 hX2 hY2 x2 hc77 hf77 y0 y1 y2 u0 u1 u2 hbs hown42 hown52 hown82
  generalize (w9).setCell ⟨g, 77, none⟩ (.int .u8 0) = w10 at *
  rw [hback.out] at hO3
  refine Calls.mono (num7 _ _) ?_
  rintro e wn ⟨rfl, rfl⟩
  go_wp2_with fail
  refine Calls.mono (num7 _ _) ?_
  rintro e wn ⟨rfl, rfl⟩
  have E := eq_ground 128 128 128 128 A5 (some ⟨g, 0, none⟩) N c5 N N _ _ (List.replicate N 0) (List.replicate N 0) w10 (Reads.of_own hown53) (Reads.of_own hO3) (Nat.le_refl _) (Nat.le_refl _) (by have := hN.out; omega) (by have := hN.out; omega)
  rw [eqG_self] at E
  replace E := Lib.hid E
  have y0 := hX3.cell (i := 0) rfl
  have y1 := hX3.cell (i := 1) rfl
  have y2 := hX3.cell (i := 2) rfl
  have u0 := hY3.cell (i := 0) rfl
  have u1 := hY3.cell (i := 1) rfl
  have u2 := hY3.cell (i := 2) rfl
  go_wp2_with fail
  refine Calls.mono E.out ?_
  rintro e w11 ⟨rfl, hb11⟩
  clear y0 y1 y2 u0 u1 u2 E hown53 hY3
  replace hX3 := hX3.below hb11 hX3.lt
  replace hO3 := own_below hO3 hb11
  replace hown43 := own_below hown43 hb11
  replace hown83 := own_below hown83 hb11
  replace hbl := hbl.trans (hb11.mono (by have := hbl.size; omega))
  clear hb11
  have y2 := hX3.cell (i := 2) rfl
  have de1 : ((z0.length : Int) == (N : Int) + 2 + 4 + 8) = true := by have := hz0.out; rw [beq_iff_eq]; omega
  have de2 : ((z1.length : Int) == (z0.length : Int)) = true := by have := hz0.out; have := hz1.out; rw [beq_iff_eq]; omega
  have E := Lib.hid (eq_bytes_b A4 A8 z0.length c4 z1.length c8 _ _ z0 z1 w11 false (Reads.of_own hown43) (Reads.of_own hown83) (by have := hz0.out; have := hN.out; omega) (by have := hz1.out; have := hN.out; omega) (by rw [beq_eq_false_iff_ne]; exact hne.out))
  clear hX3 hO3 hown43 hown83
  have hNb : N ≤ 16384 := by have := hN.out; omega
  go_wp2_with fail
  refine Calls.mono (num7 _ _) ?_
  rintro e wn ⟨rfl, rfl⟩
  go_wp2_with fail
  refine Calls.mono E.out ?_
  rintro e w12 ⟨rfl, hb12⟩
  clear E
  replace hbl := hbl.trans (hb12.mono (by have := hbl.size; omega))
  clear hb12
  go_wp2_with fail
  refine Calls.mono (num7 _ _) ?_
  rintro e wn ⟨rfl, rfl⟩
  go_wp2_with fail
  refine Calls.mono (num7 _ _) ?_
  rintro e wn ⟨rfl, rfl⟩
  go_wp2_with fail
  refine Calls.mono (num7 _ _) ?_
  rintro e wn ⟨rfl, rfl⟩
  have dl : decide ((0 : Int) ≤ (n : Int)) = true := by simp
  go_wp2_with fail
  refine Calls.mono (wakes7 _) ?_
  rintro e w13 ⟨rfl, hb13⟩
  go_wp2_with fail
  go_ret
  refine ⟨rfl, ?_⟩
  rw [hGe]
  exact hbl.trans (hb13.mono (by have := hbl.size; omega))
end lawMapcodeSizes
end Go.Proofs.Ytdcilabbjejklaa
