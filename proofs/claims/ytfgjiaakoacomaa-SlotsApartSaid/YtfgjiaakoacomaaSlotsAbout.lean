/- The places about a goal: the game's way. -/
import Derived.Test.YtfgjiaakoacomaaRing
namespace Go.Proofs.Ytfgjiaakoacomaa
set_option maxRecDepth 20000
open Go.RowKit

/-- 'out = append(out, x)': with where the row lies, and what is kept. -/
theorem wpList_push3 {P : Program} (w W : World) {ops : Array Oper} {rest : List Oper} {o : Oper} {a : Act} {Q : Exit → Act → World → Prop} (hgd : o.guard = none) (s x : Operand) (t : TypeId)
    (ho : o.op = .call { callee := .builtin .append, args := #[s, x], argTypes := #[t, t] })
    (base : Nat) (e : TypeId) (i : TypeInfo) (z : Value) (size bytes : Nat) (ht : P.underlying t = some (.slice e)) (hi : P.info? e = some i) (hz : i.zero = some z)
    (hsize : i.size = size) (hby : i.bytes = bytes) (hzs : z.cells.size = size) (hsz : 0 < size)
    (v : Value) (n : Nat) (xs : List Value) (hs : a.eval s = v) (hown : w.ownsRow base e size v n xs)
    (news : List Value) (hW : W = w.alloc (.cells news.toArray e)) (hx : a.eval x = .slice (some ⟨w.heap.size, 0, none⟩) 1 1) (hl : news.length = size) (h1 : ∀ u ∈ news, u.oneCell' = true)
    (h63 : n + 1 ≤ maxLen) (hbytes : (n + 1) * bytes ≤ 140737488355328) (hbase : base ≤ w.heap.size)
    (h : ∀ A' c' w', w'.ownsRow base e size (.slice A' (n + 1) c') (n + 1) (xs ++ news) → Below base w w' → (w.alloc (.cells news.toArray e)).grownBy w' v.ownBlock →
      ((Value.slice A' (n + 1) c').ownBlock = v.ownBlock ∨ (Value.slice A' (n + 1) c').ownBlock = some (w.heap.size + 1)) → wpList P ops Q rest (a.put o.dst (.slice A' (n + 1) c')) w') :
    wpList P ops Q (o :: rest) a W := by
  subst hW
  refine wpList_append_own_at _ hgd s x t ho base e i z size bytes ht hi hz hsize hby hzs hsz v n xs hs (hown.alloc _) ⟨w.heap.size, 0, none⟩ 1 1 news hx (by omega) ?_ h1 h63 hbytes (by simp; omega) ?_
  · intro j u hu
    rw [Addr.add_lit, Nat.zero_add, World.cell?_alloc_at _ _ _ _ rfl]
    simpa using hu
  · intro v' w' hown' hg _ hat
    obtain ⟨A', c', rfl, _⟩ := own_shape hown'
    exact h A' c' w' hown' (below_of_own ((Below.refl base w).alloc hbase _) (hown.alloc _) hg (Nat.le_refl _) (by simp; omega)) hg (by rw [show w.heap.size + 1 = (w.alloc (.cells news.toArray e)).heap.size by simp]; exact hat)
/-- Two rows in two blocks. -/
def apartV (v u : Value) : Prop := v.ownBlock = none ∨ v.ownBlock ≠ u.ownBlock
theorem apart_push {w w' : World} {base e n} {xs : List Value} {v u u' : Value} {o : Obj} (hv : w.ownsRow base e 1 v n xs) (ha : apartV v u) (hg : (w.alloc o).grownBy w' u.ownBlock) (hu : u'.ownBlock = u.ownBlock ∨ u'.ownBlock = some (w.heap.size + 1)) :
    w'.ownsRow base e 1 v n xs ∧ apartV v u' := by
  refine ⟨(hv.alloc _).kept hg ha, ?_⟩
  rcases hu with hu | hu
  · unfold apartV; rw [hu]; exact ha
  · cases hb : v.ownBlock with
    | none => exact .inl hb
    | some k =>
      right
      rw [hu, hb]
      intro h
      injection h with h
      have := (hv.lt k hb).2
      omega
theorem apart_new {w w' : World} {base base2 e e2 n n2} {xs ys : List Value} {v u : Value} (hu : w.ownsRow base e 1 u n xs) (hv : w'.ownsRow base2 e2 1 v n2 ys) (hs : w.heap.size ≤ base2) : apartV v u := by
  cases hb : v.ownBlock with
  | none => exact .inl hb
  | some k =>
    right
    rw [hb]
    intro h
    have h1 := (hv.lt k hb).1
    have h2 := (hu.lt k h.symm).2
    omega
theorem dvd_gap {d m s : Int} (h : d % s = 0) (h1 : d < m) (h2 : m < d + s) : ¬ m % s = 0 := by
  intro hm
  have h3 : (m - d) % s = 0 := by
    rw [← Int.dvd_iff_emod_eq_zero] at *
    exact Int.dvd_sub hm h
  rw [Int.emod_eq_of_lt (by omega) (by omega)] at h3
  omega
theorem lvls_gap {W : Int} {n g : Nat} {s : Int} {good : Nat → Bool} {d : Nat} {e : Nat} (he : (e : Int) = s) (he1 : 1 ≤ e) (hd : (d : Int) % s = 0) : lvls (lvl W n g s good) (d + e) = lvls (lvl W n g s good) (d + 1) :=
  lvls_empty (d + e) (by omega) (fun m h1 h2 => lvl_none (dvd_gap hd (by omega) (by omega)))
theorem asI_getD {l : List Nat} {q : Nat} (h : q < l.length) : (asI l).getD q 0 = ((l.getD q 0 : Nat) : Int) := by
  simp [asI, List.getD, h]
theorem filter_take {l : List Nat} {p : Nat → Bool} {q : Nat} (h : q < l.length) : (l.take (q + 1)).filter p = (l.take q).filter p ++ (if p (l.getD q 0) then [l.getD q 0] else []) := by
  rw [List.take_add_one, List.filter_append]
  congr 1
  have : l[q]? = some (l.getD q 0) := by simp [List.getD, h]
  rw [this]
  generalize l.getD q 0 = v
  show List.filter p [v] = _
  cases hp : p v
  · rw [List.filter_cons_of_neg (by rw [hp]; decide)]; rfl
  · rw [List.filter_cons_of_pos hp]; rfl
theorem ringT_lt {W : Int} {n g : Nat} {s d : Int} {q : Nat} (h : q < (ringT W n g s d).length) : (ringT W n g s d).getD q 0 < n := by
  have hm : (ringT W n g s d).getD q 0 ∈ ringT W n g s d := by
    rw [show (ringT W n g s d).getD q 0 = (ringT W n g s d)[q] by simp [List.getD, h]]
    exact List.getElem_mem h
  exact List.mem_range.1 (List.mem_filter.1 hm).1

set_option maxHeartbeats 6400000 in
set_option maxRecDepth 20000 in
theorem slots_about (W H s N : Int) (g : Nat) (A A2 : Option Addr) (n c c2 B : Nat) (good : Nat → Bool) (w : World) (hr : Reads w B 1 A2 n (bools n good)) (hB : B ≤ w.heap.size) (hW0 : 1 ≤ W) (hW1 : W ≤ 128) (hH0 : 1 ≤ H) (hH1 : H ≤ 128) (hn : (n : Int) = W * H) (hgn : g < n) (hs0 : 0 ≤ s) (hs3 : s ≤ 3) (hN0 : 0 ≤ N) (hN1 : N ≤ 64) :
    Calls Try.prog 47 #[.agg #[.int .i64 W, .int .i64 H, .slice A n c], .slice A2 n c2, .int .i64 s, .int .i64 (g : Int), .int .i64 N] w (GivesNums w.heap.size w (asI (slotsN W H n g (2 * s + 1) good N.toNat))) := by
  obtain ⟨i0, hi0, hz0, hz1, hz2⟩ := info_parts info_int
  have hp := prod_range hW0 hW1 hH0 hH1
  have hn4 : n ≤ 16384 := by omega
  have hG := Blk.new w #[.int .i64 W, .int .i64 H, .slice A n c] 24
  have hb := (Below.refl w.heap.size w).alloc (Nat.le_refl _) (.cells #[.int .i64 W, .int .i64 H, .slice A n c] 24)
  obtain ⟨M, hM⟩ : ∃ M : Nat, (M : Int) = N := ⟨N.toNat, by omega⟩
  rw [show N.toNat = M by omega]
  have hgd := (hr.more hB).below hb
  clear hr hB hN0
  obtain ⟨gap, hgap⟩ := Int.eq_ofNat_of_zero_le (show 0 ≤ 2 * s + 1 by omega)
  have hg1 : 1 ≤ gap ∧ gap ≤ 7 := by omega
  obtain ⟨hG1, hG2⟩ := hg1
  have RC := Lib.hid (fun (d : Nat) (hd : d ≤ 200) W' => slots_ring W H (gap : Int) (d : Int) g A n c W' hW0 hW1 hH0 hH1 hn hgn (by omega) (by omega) (by omega) (by omega))
  have FAR := Lib.hid (fun (a b : Nat) (h1 : W ≤ a) (h2 : H ≤ a) (h3 : W ≤ b) (h4 : H ≤ b) => lvls_end (s := (gap : Int)) (good := good) hW0 hn hgn h1 h2 h3 h4)
  rw [hgap]
  go_enter Try.func47, Try.ntmps47
  go_wp2_with fail
  clear hgap
  generalize w.alloc (.cells #[.int .i64 W, .int .i64 H, .slice A n c] 24) = w1 at *
  have hGl := hG.lt
  replace hn := Lib.hid hn
  replace hp := Lib.hid hp
  have hbs1 := hb.size
  go_loopw [10, 12] (fun ov dv wr => ∃ (d : Nat) (A' : Option Addr) (c' : Nat), (d : Int) ≤ max W H + 7 ∧ (d : Int) % (gap : Int) = 0 ∧ dv = .int .i64 (d : Int) ∧ ov = .slice A' ((lvls (lvl W n g (gap : Int) good) d).take M).length c' ∧ wr.ownsRow w1.heap.size 3 1 (.slice A' ((lvls (lvl W n g (gap : Int) good) d).take M).length c') ((lvls (lvl W n g (gap : Int) good) d).take M).length (nums .i64 (asI ((lvls (lvl W n g (gap : Int) good) d).take M))) ∧ Below w1.heap.size w1 wr) (fun _ dv _ => (max W H + 7 - intOf dv).toNat)
  case atStart => exact ⟨0, none, 0, by omega, by simp, rfl, by simp [lvls], by simpa [lvls, nums, asI] using World.ownsRow_nil w1 w1.heap.size 3 1, Below.refl _ _⟩
  case round =>
    obtain ⟨d, A', c', hd, hdg, rfl, rfl, hown, hbl⟩ := hrel
    have hG3 := hG.below hbl hGl
    have z0 := hG3.cell (i := 0) rfl
    have z1 := hG3.cell (i := 1) rfl
    have z2 := hG3.cell (i := 2) rfl
    have hlM : ((lvls (lvl W n g (gap : Int) good) d).take M).length ≤ M := by rw [List.length_take]; omega
    by_cases hcont : (d : Int) ≤ max W H ∧ ((lvls (lvl W n g (gap : Int) good) d).take M).length < M
    case neg =>
      have hfin : (lvls (lvl W n g (gap : Int) good) d).take M = slotsN W H n g (gap : Int) good M := by
        by_cases h1 : (d : Int) ≤ max W H
        · exact slots_stop (by omega) (by omega)
        · unfold slotsN
          rw [FAR.out d (W + H + 1).toNat (by omega) (by omega) (by omega) (by omega)]
      have HFIN := Lib.hid hfin
      clear hfin
      generalize (lvls (lvl W n g (gap : Int) good) d).take M = X at *
      have hXl := asI_len X
      generalize hLn : X.length = Ln at *
      have HO := Lib.hid (own_mono hown hb.size)
      have HB := Lib.hid (hb.trans (hbl.mono hb.size))
      replace hXl := Lib.hid hXl
      have hcc : (d : Int) ≤ max W H → ¬ Ln < M := fun h1 h2 => hcont ⟨h1, h2⟩
      clear hown hbl hb hG3 hLn hcont
      by_cases h1 : (d : Int) ≤ max W H
      · have d1 : decide ((d : Int) ≤ max W H) = true := decide_eq_true h1
        have d2 : decide ((Ln : Int) < N) = false := decide_eq_false (by have := hcc h1; omega)
        clear hcc hlM h1
        go_wp2_with fail
        go_ret
        exact ⟨A', c', by rw [← HFIN.out, hXl.out]; rfl, by rw [← HFIN.out, hXl.out]; exact HO.out, HB.out⟩
      · have d1 : decide ((d : Int) ≤ max W H) = false := decide_eq_false h1
        go_wp2_with fail
        go_ret
        exact ⟨A', c', by rw [← HFIN.out, hXl.out]; rfl, by rw [← HFIN.out, hXl.out]; exact HO.out, HB.out⟩
    obtain ⟨hc1, hc2⟩ := hcont
    have d1 : decide ((d : Int) ≤ max W H) = true := decide_eq_true hc1
    have d2 : decide ((((lvls (lvl W n g (gap : Int) good) d).take M).length : Int) < N) = true := decide_eq_true (by omega)
    have hmx : max W H ≤ 128 := by omega
    have hd2 : d ≤ 200 := by omega
    have hdi : (d : Int) ≤ 200 := by omega
    have hRC := Lib.hid (RC.out d hd2)
    have RLT := Lib.hid (fun q (h : q < (ringT W n g (gap : Int) (d : Int)).length) => ringT_lt h)
    have RLN : (ringT W n g (gap : Int) (d : Int)).length ≤ 16384 := by
      have := List.length_filter_le (ringB W g (gap : Int) (d : Int)) (List.range n)
      rw [List.length_range] at this
      exact Nat.le_trans this hn4
    obtain ⟨R, hR⟩ : ∃ R : List Nat, R = ringT W n g (gap : Int) (d : Int) := ⟨_, rfl⟩
    obtain ⟨F, hF⟩ : ∃ F : Nat → List Nat, F = fun q => (lvls (lvl W n g (gap : Int) good) d ++ (R.take q).filter good).take M := ⟨_, rfl⟩
    have F0 : (lvls (lvl W n g (gap : Int) good) d).take M = F 0 := by rw [hF]; simp
    have FE : Hid (F R.length = (lvls (lvl W n g (gap : Int) good) (d + gap)).take M) := Lib.hid (by
      rw [lvls_gap rfl hG1 hdg, hF]
      show List.take M (_ ++ (R.take R.length).filter good) = _
      rw [List.take_length, hR]
      rfl)
    have FY : Hid (∀ q, q < R.length → good (R.getD q 0) = true → (F q).length < M → F (q + 1) = F q ++ [R.getD q 0]) := Lib.hid (by
      rw [hF]
      intro q h1 h2 h3
      show List.take M (_ ++ (R.take (q + 1)).filter good) = _
      rw [filter_take h1, if_pos h2, ← List.append_assoc]
      exact take_step h3)
    have FN : Hid (∀ q, q < R.length → (good (R.getD q 0) = false ∨ M ≤ (F q).length) → F (q + 1) = F q) := Lib.hid (by
      rw [hF]
      intro q h1 h2
      show List.take M (_ ++ (R.take (q + 1)).filter good) = List.take M (_ ++ (R.take q).filter good)
      rw [filter_take h1, ← List.append_assoc]
      rcases h2 with h2 | h2
      · rw [if_neg (by rw [h2]; decide), List.append_nil]
      · refine take_more ?_
        have h3 : M ≤ (List.take M (lvls (lvl W n g (gap : Int) good) d ++ (R.take q).filter good)).length := h2
        rw [List.length_take] at h3
        omega)
    have FL : Hid (∀ q, (F q).length ≤ M) := Lib.hid (by rw [hF]; intro t; show (List.take M _).length ≤ M; rw [List.length_take]; omega)
    rw [← hR] at hRC RLT RLN
    have hdn : Hid (((d + gap : Nat) : Int) % (gap : Int) = 0) := Lib.hid (by rw [Int.natCast_add, Int.add_emod_right]; exact hdg)
    clear hF hlM hR RC hdg
    rw [F0] at d2 hown ⊢
    clear F0 FAR
    obtain ⟨L0, hL0⟩ : ∃ L0, L0 = (F 0).length := ⟨_, rfl⟩
    rw [← hL0] at d2 hown ⊢
    replace hL0 := Lib.hid hL0
    obtain ⟨Rn, hRn⟩ : ∃ Rn, Rn = R.length := ⟨_, rfl⟩
    rw [← hRn] at RLN RLT FE FY FN
    replace hRn := Lib.hid hRn
    have HO := Lib.hid hown
    have HB := Lib.hid hbl
    clear hown hbl hG3
    go_wp2_with fail
    clear z0 z1 z2 d1 d2
    refine Calls.mono (hRC.out _) ?_
    rintro e w5 ⟨A3, c3, rfl, hO3, hb5⟩
    have hown := own_below HO.out hb5
    have hbl := HB.out.trans (hb5.mono HB.out.size)
    have hbs := hbl.size
    have hAP := apart_new HO.out hO3 (Nat.le_refl _)
    rw [asI_len, ← hRn.out] at hO3 hAP ⊢
    clear hRC HO HB hb5
    go_wp2_with fail
    go_loopw [10, 40] (fun ov qv wi => ∃ (q : Nat) (A' : Option Addr) (c' : Nat), q ≤ Rn ∧ qv = .int .i64 (q : Int) ∧ ov = .slice A' (F q).length c' ∧ wi.ownsRow w1.heap.size 3 1 (.slice A' (F q).length c') (F q).length (nums .i64 (asI (F q))) ∧ wi.ownsRow wr.heap.size 3 1 (.slice A3 Rn c3) Rn (nums .i64 (asI R)) ∧ apartV (.slice A3 Rn c3) (.slice A' (F q).length c') ∧ Below w1.heap.size w1 wi) (fun _ qv _ => Rn - (intOf qv).toNat)
    case atStart => exact ⟨0, A', c', Nat.zero_le _, rfl, by rw [← hL0.out], by rw [← hL0.out]; exact hown, hO3, by rw [← hL0.out]; exact hAP, hbl⟩
    case round =>
      clear hown hbl hO3 hAP hL0
      obtain ⟨q, A', c', hq, rfl, rfl, hown, hO3, hAP, hbl⟩ := hrel
      have hlM := FL.out q
      by_cases hqr : q < Rn
      case neg =>
        obtain rfl : q = Rn := by omega
        rw [FE.out] at hown
        have HO := Lib.hid hown
        have HB := Lib.hid hbl
        clear hown hbl FY FN FL hb hO3 hAP hlM
        go_wp2_with fail
        go_roundw
        case rel => exact ⟨d + gap, A', c', by omega, hdn.out, by go_num, by rw [FE.out], HO.out, HB.out⟩
        case measure => simp [intOf]; omega
      have hqz : (q : Int) < (Rn : Int) := by omega
      have hRq := Reads.of_own hO3
      obtain ⟨hll, b3, o3, rfl, hb3, hc3⟩ := hRq.num hqr
      have htn := RLT.out q hqr
      rw [asI_getD (show q < R.length by rw [← hRn.out]; exact hqr)] at hc3
      have FY := Lib.hid (FY.out q hqr)
      have FN := Lib.hid (FN.out q hqr)
      generalize R.getD q 0 = t at *
      obtain ⟨Ft, hFt⟩ : ∃ Ft, Ft = F q := ⟨_, rfl⟩
      rw [← hFt] at hlM FY FN hown hAP ⊢
      clear hFt FL
      obtain ⟨Lt, hLt⟩ : ∃ Lt, Lt = Ft.length := ⟨_, rfl⟩
      rw [← hLt] at hlM FY FN hown hAP ⊢
      have HLT := Lib.hid hLt
      clear hLt
      have hgd4 := hgd.below (hbl.mono hbs1)
      obtain ⟨bg, og, rfl, _, hcg⟩ := reads_bool hgd4 htn
      have htz : (t : Int) < (n : Int) := by omega
      have HO := Lib.hid hown
      have HB := Lib.hid hbl
      have HO3 := Lib.hid hO3
      have HAP := Lib.hid hAP
      have hbs6 := hbl.size
      clear hown hbl hO3 hAP hRq hgd4 hll
      cases hgt : good t with
      | false =>
        rw [hgt] at hcg
        have hN := Lib.hid (FN.out (.inl hgt))
        clear FY FN hgt hb FE
        go_wp2_with fail
        go_roundw
        case rel => exact ⟨q + 1, A', c', by omega, by go_num, by rw [hN.out, HLT.out], by rw [hN.out, ← HLT.out]; exact HO.out, HO3.out, by rw [hN.out, ← HLT.out]; exact HAP.out, HB.out⟩
        case measure => simp [intOf]; omega
      | true =>
        rw [hgt] at hcg
        by_cases hlt : Lt < M
        case neg =>
          have d4 : decide ((Lt : Int) < N) = false := decide_eq_false (by omega)
          have hN := Lib.hid (FN.out (.inr (by omega)))
          clear FY FN hgt hb FE
          go_wp2_with fail
          go_roundw
          case rel => exact ⟨q + 1, A', c', by omega, by go_num, by rw [hN.out, HLT.out], by rw [hN.out, ← HLT.out]; exact HO.out, HO3.out, by rw [hN.out, ← HLT.out]; exact HAP.out, HB.out⟩
          case measure => simp [intOf]; omega
        have d4 : decide ((Lt : Int) < N) = true := decide_eq_true (by omega)
        have hY := FY.out hgt hlt
        have HV : Hid (nums .i64 (asI Ft) ++ [.int .i64 (t : Int)] = nums .i64 (asI (F (q + 1)))) := Lib.hid (by rw [hY, nums_asI])
        have HL : Hid (Lt + 1 = (F (q + 1)).length) := Lib.hid (by rw [hY, HLT.out]; simp)
        have hown := HO.out
        clear FY FN hgt hY HO hb FE
        go_wp2_with (at_builtin; refine wpList_push3 wr _ rfl _ _ _ rfl w1.heap.size 3 i0 _ 1 8 Try.underlying30 hi0 hz0 hz1 hz2 rfl (by omega) _ _ _ rfl hown [.int .i64 (t : Int)] rfl rfl rfl (one_int _ _) (by unfold maxLen; omega) (by omega) hbs6 ?_; intro A4 c4 w6 hown2 hb6 hg6 hat6)
        obtain ⟨hO4, hAP4⟩ := apart_push HO3.out HAP.out hg6 hat6
        rw [HV.out, HL.out] at hown2
        rw [HL.out] at hAP4 ⊢
        have HO4 := Lib.hid hO4
        have HAP4 := Lib.hid hAP4
        have HO2 := Lib.hid hown2
        have HB6 := Lib.hid (HB.out.trans hb6)
        clear hown2 hb6 hg6 hat6 hO4 hAP4 HB HO3 HAP
        go_roundw
        case rel => exact ⟨q + 1, A4, c4, by omega, by go_num, rfl, HO2.out, HO4.out, HAP4.out, HB6.out⟩
        case measure => simp [intOf]; omega
end Go.Proofs.Ytfgjiaakoacomaa
