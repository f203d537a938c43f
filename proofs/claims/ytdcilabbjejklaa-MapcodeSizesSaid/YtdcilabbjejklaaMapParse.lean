/- How the game reads a map. -/
import Derived.Test.YtdcilabbjejklaaMapBytes
namespace Go.Proofs.Ytdcilabbjejklaa
set_option maxRecDepth 20000
open Go.RowKit

/-- The reader in block R, the ground in G, the result in C. -/
structure MP (w0 w : World) (M C G R : Nat) (s : St) (W H : Int) (A : Option Addr) (m c : Nat) : Prop where
  rd : Rd M w C R s
  res : Blk w C #[.int .i64 0, .int .i64 0, .slice none 0 0] 39
  g : Blk w G #[.int .i64 W, .int .i64 H, .slice A m c] 39
  below : Below C w0 w
  lt1 : C < G
  lt2 : G < R
section
variable {w0 w w' : World} {M C G R : Nat} {s s' : St} {W H : Int} {A : Option Addr} {m c : Nat}
theorem Rd.same2 {base R : Nat} (h : Rd M w base R s) (hk : ∀ k, k < base ∨ k = R → w'.heap[k]? = w.heap[k]?) : Rd M w' base R s := by
  obtain ⟨h0, A, n, c, x, h1, h2, h3⟩ := h
  refine ⟨h0, A, n, c, x, h1.keep (hk R (.inr rfl)), h2, ?_⟩
  cases s with
  | ok l => exact ⟨h3.1, h3.2.1.keep fun p hp => World.cell?_of_block (hk p.block (.inl hp)), h3.2.2⟩
  | bad e => exact h3
theorem MP.call (h : MP w0 w M C G R s W H A m c) (hR : Rd M w' C R s') (ho : Only R w w') : MP w0 w' M C G R s' W H A m c :=
  have h1 := h.lt1
  have h2 := h.lt2
  ⟨hR, h.res.only ho (by omega), h.g.only ho (by omega), below_only h.below ho (by omega) (by have := h.res.lt; omega), h1, h2⟩
theorem MP.set (h : MP w0 w M C G R s W H A m c) (o : Nat) (u : Value) : Rd M (w.setCell ⟨G, o, none⟩ u) C R s ∧ Blk (w.setCell ⟨G, o, none⟩ u) C #[.int .i64 0, .int .i64 0, .slice none 0 0] 39 ∧ Below C w0 (w.setCell ⟨G, o, none⟩ u) :=
  have h1 := h.lt1
  have h2 := h.lt2
  ⟨h.rd.same2 fun k hk => Below.heap_setCell _ _ _ _ (by show k ≠ G; omega), h.res.other (by show C ≠ G; omega) u, h.below.setCell (by show C ≤ G; omega) u⟩
theorem MP.setW (h : MP w0 w M C G R s W H A m c) (x : Int) : MP w0 (w.setCell ⟨G, 0, none⟩ (.int .i64 x)) M C G R s x H A m c :=
  ⟨(h.set 0 _).1, (h.set 0 _).2.1, h.g.set 0 _, (h.set 0 _).2.2, h.lt1, h.lt2⟩
theorem MP.setH (h : MP w0 w M C G R s W H A m c) (x : Int) : MP w0 (w.setCell ⟨G, 1, none⟩ (.int .i64 x)) M C G R s W x A m c :=
  ⟨(h.set 1 _).1, (h.set 1 _).2.1, h.g.set 1 _, (h.set 1 _).2.2, h.lt1, h.lt2⟩
theorem MP.setT (h : MP w0 w M C G R s W H A m c) (A' : Option Addr) (m' c' : Nat) : MP w0 (w.setCell ⟨G, 2, none⟩ (.slice A' m' c')) M C G R s W H A' m' c' :=
  ⟨(h.set 2 _).1, (h.set 2 _).2.1, h.g.set 2 _, (h.set 2 _).2.2, h.lt1, h.lt2⟩
theorem MP.grow (h : MP w0 w M C G R s W H A m c) (hb : Below (R + 1) w w') : MP w0 w' M C G R s W H A m c :=
  have h1 := h.lt1
  have h2 := h.lt2
  ⟨h.rd.below hb, h.res.below hb (by omega), h.g.below hb (by omega), h.below.trans (hb.mono (by omega)), h1, h2⟩
end

/-- Where the loop over the tiles stands. -/
def TLink (T : List Int × St) (zs : List Int) (k : Int) : St → Prop
  | .ok r => ∃ j : Nat, k = j ∧ T = (zs ++ (rtiles j (.ok r)).1, (rtiles j (.ok r)).2)
  | .bad e => T.2 = .bad e
theorem tlink_next {T : List Int × St} {zs r : List Int} {j : Nat} {x : Int} (h : TLink T zs ((j : Int) + 1) (.ok r)) (hx : ∀ l, (rbyte (.ok r)).2 = .ok l → x = (rbyte (.ok r)).1) :
    TLink T (zs ++ [x]) j (rmust (decide (x ≤ 5)) (rbyte (.ok r)).2) := by
  obtain ⟨i, hi, hT⟩ := h
  obtain rfl : i = j + 1 := by omega
  rw [rtiles_succ] at hT
  simp only [bnd, rtile, give] at hT
  cases hb : (rbyte (.ok r)).2 with
  | bad e =>
    rw [hb] at hT
    simp only [rmust]
    show T.2 = _
    rw [hT]
    exact stays_tiles j e
  | ok l =>
    have hxx := hx l hb
    rw [hb, ← hxx] at hT
    by_cases h5 : x ≤ 5
    · simp only [h5, decide_true, rmust, if_true] at hT ⊢
      exact ⟨j, rfl, by rw [hT]; simp⟩
    · simp only [h5, decide_false, rmust, Bool.false_eq_true, if_false] at hT ⊢
      show T.2 = _
      rw [hT]
      exact stays_tiles j 1

def GivesG (w : World) (r : (Int × Int × List Int) × Int) (e : Ending) (w' : World) : Prop :=
  ∃ A c, e = .returned (.tuple #[.agg #[.int .i64 r.1.1, .int .i64 r.1.2.1, .slice A r.1.2.2.length c], .int .i64 r.2]) ∧ w'.ownsRow w.heap.size 5 1 (.slice A r.1.2.2.length c) r.1.2.2.length (nums .u8 r.1.2.2) ∧ Below w.heap.size w w'

theorem own_set {w : World} {base : Nat} {e : TypeId} {size n : Nat} {v : Value} {xs : List Value} (h : w.ownsRow base e size v n xs) {b o : Nat} (hb : b < base) (u : Value) : (w.setCell ⟨b, o, none⟩ u).ownsRow base e size v n xs := by
  refine ⟨h.1, ?_⟩
  rcases h.2 with hn | ⟨g, cap, cur, hv, hg, hh, r⟩
  · exact .inl hn
  · exact .inr ⟨g, cap, cur, hv, hg, by rw [Below.heap_setCell _ _ _ _ (by show g ≠ b; omega)]; exact hh, r⟩
theorem Reads.first {w : World} {B n q : Nat} {A : Option Addr} {k : IntKind} {l : List Int} (h : Reads w B 1 A n (nums k l)) (hq : q ≤ n) : Reads w B 1 A q (nums k (l.take q)) := by
  have hl : l.length = n := by have := h.1; simpa [nums] using this
  refine ⟨by simp [nums]; omega, fun hn => ?_⟩
  obtain ⟨ad, e, hb, hc⟩ := h.2 (by omega)
  refine ⟨ad, e, hb, fun j u hu => hc j u ?_⟩
  have hj := (List.getElem?_eq_some_iff.1 hu).1
  rw [← hu]
  unfold nums
  rw [List.map_take, List.getElem?_take, if_pos (by simp [nums] at hj; omega)]
theorem rnum_ok {lo hi : Int} {s : St} {r : List Int} (h : (rnum lo hi s).2 = .ok r) : lo ≤ (rnum lo hi s).1 ∧ (rnum lo hi s).1 ≤ hi ∧ ∃ m, s = .ok m := by
  cases s with
  | bad e => simp [rnum] at h
  | ok l =>
    simp only [rnum] at h ⊢
    split at h
    · simp at h
    · rename_i h1
      split at h
      · rename_i h2
        rw [if_neg h1, if_pos h2]
        exact ⟨h2.1, h2.2, l, rfl⟩
      · simp at h
theorem tiles_ok {n : Nat} {s : St} {r : List Int} (h : (rtiles n s).2 = .ok r) : ∃ m, s = .ok m := by
  cases s with
  | bad e => rw [stays_tiles n e] at h; cases h
  | ok l => exact ⟨l, rfl⟩
theorem loop_start {s1 : St} {p2 p3 : Int × St} {W H : Int} (h2 : rnum 1 128 s1 = p2) (h3 : rnum 1 128 p2.2 = p3) (hW : ∀ l, p2.2 = .ok l → W = p2.1) (hH : ∀ l, p3.2 = .ok l → H = p3.1) :
    ∃ K0, IntKind.i64.wrap (W * H) = K0 ∧ TLink (rtiles (p2.1 * p3.1).toNat p3.2) [] K0 p3.2 ∧ (∀ r, p3.2 = .ok r → 0 ≤ K0 ∧ K0 + (0 : Nat) ≤ 16384) ∧ (∀ r, p3.2 = .ok r → W = p2.1 ∧ H = p3.1) := by
  subst h2
  cases h : p3.2 with
  | bad e => exact ⟨_, rfl, stays_tiles _ e, fun r hr => (by cases hr), fun r hr => (by cases hr)⟩
  | ok m =>
    rw [← h3] at h
    obtain ⟨b1, b2, m1, hm1⟩ := rnum_ok h
    obtain ⟨a1, a2, _⟩ := rnum_ok hm1
    rw [h3] at b1 b2 h
    have eW := hW _ hm1
    have eH := hH _ h
    obtain ⟨q1, q2⟩ := prod_range a1 a2 b1 b2
    refine ⟨W * H, IntWalk.i64_in _ (by rw [eW, eH]; omega), ⟨((rnum 1 128 s1).1 * p3.1).toNat, by rw [eW, eH]; omega, by simp⟩, fun r _ => by rw [eW, eH]; omega, fun r _ => ⟨eW, eH⟩⟩
theorem map_end {l zs : List Int} {s1 s : St} {p2 p3 : Int × St} {W H k : Int} {q : Nat} (h1 : rsame [84, 71] (.ok l) = s1) (h2 : rnum 1 128 s1 = p2) (h3 : rnum 1 128 p2.2 = p3)
    (hT : TLink (rtiles (p2.1 * p3.1).toNat p3.2) zs k s) (hWH : ∀ r, p3.2 = .ok r → W = p2.1 ∧ H = p3.1) (hk : ∀ r, s = .ok r → k = 0) (hq : ∀ r, s = .ok r → q = l.length - r.length) :
    parseG l = match rend (rsame (eight (fsum fstart (l.take q))) s) with
      | .ok _ => ((W, H, zs), 0)
      | .bad e => ((0, 0, []), e) := by
  have hh : rhead (.ok l) = ((p2.1, p3.1, (rtiles (p2.1 * p3.1).toNat p3.2).1), (rtiles (p2.1 * p3.1).toNat p3.2).2) := by subst h1; subst h2; subst h3; rfl
  unfold parseG rground
  cases s with
  | bad e =>
    have : (rtiles (p2.1 * p3.1).toNat p3.2).2 = .bad e := hT
    rw [hh]
    simp only [this, rsame_bad, rend]
  | ok r =>
    obtain ⟨j, hj, hT⟩ := hT
    have := hk r rfl
    obtain rfl : j = 0 := by omega
    rw [show rtiles 0 (.ok r) = ([], .ok r) from rfl, List.append_nil] at hT
    obtain ⟨m, hm⟩ := tiles_ok (show (rtiles (p2.1 * p3.1).toNat p3.2).2 = .ok r by rw [hT])
    obtain ⟨eW, eH⟩ := hWH m hm
    rw [hh, hT, hq r rfl, eW, eH]
    rfl

set_option maxHeartbeats 3200000 in
set_option maxRecDepth 20000 in
theorem map_parse (A : Option Addr) (n c B : Nat) (l : List Int) (w : World) (hl : Left n w B A n c l) (hB : B ≤ w.heap.size) :
    Calls Try.prog 48 #[.slice A n c] w (GivesG w (parseG l)) := by
  obtain ⟨i0, hi0, hy0, hy1, hy2⟩ := info_parts info_u8
  have hll := Lib.hid hl.len
  have hn4 := hl.2.2.2.2
  have e3 : (((w.alloc (.cells #[.int .i64 0, .int .i64 0, .slice none 0 0] 39)).alloc (.cells #[.int .i64 0, .int .i64 0, .slice none 0 0] 39)).alloc (.cells #[.slice A n c, .int .i64 0] 92)).heap.size = w.heap.size + 1 + 1 + 1 := by simp
  have kc : (convert 37 37 (.slice (some ⟨w.heap.size + 1 + 1 + 1, 0, none⟩) 2 2)).run Try.prog ((((w.alloc (.cells #[.int .i64 0, .int .i64 0, .slice none 0 0] 39)).alloc (.cells #[.int .i64 0, .int .i64 0, .slice none 0 0] 39)).alloc (.cells #[.slice A n c, .int .i64 0] 92)).alloc (.cells #[.int .u8 84, .int .u8 71] 5)) = .ok (.slice (some ⟨w.heap.size + 1 + 1 + 1, 0, none⟩) 2 2) ((((w.alloc (.cells #[.int .i64 0, .int .i64 0, .slice none 0 0] 39)).alloc (.cells #[.int .i64 0, .int .i64 0, .slice none 0 0] 39)).alloc (.cells #[.slice A n c, .int .i64 0] 92)).alloc (.cells #[.int .u8 84, .int .u8 71] 5 (2, 3))) :=
    Go.Joins.run_convert_bytes_const_at (((w.alloc (.cells #[.int .i64 0, .int .i64 0, .slice none 0 0] 39)).alloc (.cells #[.int .i64 0, .int .i64 0, .slice none 0 0] 39)).alloc (.cells #[.slice A n c, .int .i64 0] 92)) 37 5 #[.int .u8 84, .int .u8 71] 2 2 (w.heap.size + 1 + 1 + 1) e3.symm Try.underlying37 Try.underlying5
  have hTG : Reads ((((w.alloc (.cells #[.int .i64 0, .int .i64 0, .slice none 0 0] 39)).alloc (.cells #[.int .i64 0, .int .i64 0, .slice none 0 0] 39)).alloc (.cells #[.slice A n c, .int .i64 0] 92)).alloc (.cells #[.int .u8 84, .int .u8 71] 5 (2, 3))) (w.heap.size + 1 + 1 + 1 + 1) 1 (some ⟨w.heap.size + 1 + 1 + 1, 0, none⟩) 2 (nums .u8 [84, 71]) := by
    have := reads_new (((w.alloc (.cells #[.int .i64 0, .int .i64 0, .slice none 0 0] 39)).alloc (.cells #[.int .i64 0, .int .i64 0, .slice none 0 0] 39)).alloc (.cells #[.slice A n c, .int .i64 0] 92)) (nums .u8 [84, 71]) 5 (2, 3) 2 rfl
    rw [e3] at this
    exact this
  have hP : MP w (((w.alloc (.cells #[.int .i64 0, .int .i64 0, .slice none 0 0] 39)).alloc (.cells #[.int .i64 0, .int .i64 0, .slice none 0 0] 39)).alloc (.cells #[.slice A n c, .int .i64 0] 92)) n w.heap.size (w.heap.size + 1) (w.heap.size + 1 + 1) (.ok l) 0 0 none 0 0 := by
    have hb : Below w.heap.size w (((w.alloc (.cells #[.int .i64 0, .int .i64 0, .slice none 0 0] 39)).alloc (.cells #[.int .i64 0, .int .i64 0, .slice none 0 0] 39)).alloc (.cells #[.slice A n c, .int .i64 0] 92)) := (((Below.refl w.heap.size w).alloc (Nat.le_refl _) _).alloc (by simp) _).alloc (by simp; omega) _
    refine ⟨⟨by omega, A, n, c, 0, ?_, by omega, rfl, (hl.1.more hB).below hb, hl.2⟩, ((Blk.new w _ _).alloc _).alloc _, ?_, hb, by omega, by omega⟩
    · have := Blk.new ((w.alloc (.cells #[.int .i64 0, .int .i64 0, .slice none 0 0] 39)).alloc (.cells #[.int .i64 0, .int .i64 0, .slice none 0 0] 39)) #[.slice A n c, .int .i64 0] 92
      simpa using this
    · have := (Blk.new (w.alloc (.cells #[.int .i64 0, .int .i64 0, .slice none 0 0] 39)) #[.int .i64 0, .int .i64 0, .slice none 0 0] 39).alloc (.cells #[.slice A n c, .int .i64 0] 92)
      simpa using this
  have hP1 : MP w ((((w.alloc (.cells #[.int .i64 0, .int .i64 0, .slice none 0 0] 39)).alloc (.cells #[.int .i64 0, .int .i64 0, .slice none 0 0] 39)).alloc (.cells #[.slice A n c, .int .i64 0] 92)).alloc (.cells #[.int .u8 84, .int .u8 71] 5 (2, 3))) n w.heap.size (w.heap.size + 1) (w.heap.size + 1 + 1) (.ok l) 0 0 none 0 0 := hP.grow ((Below.refl _ _).alloc (by rw [e3]; exact Nat.le_refl _) _)
  have hs1 : w.heap.size + 1 + 1 + 1 + 1 ≤ ((((w.alloc (.cells #[.int .i64 0, .int .i64 0, .slice none 0 0] 39)).alloc (.cells #[.int .i64 0, .int .i64 0, .slice none 0 0] 39)).alloc (.cells #[.slice A n c, .int .i64 0] 92)).alloc (.cells #[.int .u8 84, .int .u8 71] 5 (2, 3))).heap.size := by simp
  clear hP e3
  go_enter Try.func48, Try.ntmps48
  go_wp2_with fail
  clear kc
  generalize (((w.alloc (.cells #[.int .i64 0, .int .i64 0, .slice none 0 0] 39)).alloc (.cells #[.int .i64 0, .int .i64 0, .slice none 0 0] 39)).alloc (.cells #[.slice A n c, .int .i64 0] 92)).alloc (.cells #[.int .u8 84, .int .u8 71] 5 (2, 3)) = w1 at *
  generalize w.heap.size + 1 + 1 = R at *
  generalize w.heap.size + 1 = G at *
  generalize hC : w.heap.size = C at *
  replace hC := Lib.hid hC
  have C1 := Lib.hid (reader_same (M := n) C R (some ⟨R + 1, 0, none⟩) 2 2 (R + 1 + 1) [84, 71] (.ok l) w1 hP1.rd hTG (fun k hk => by cases hk; show R + 1 ≠ R; omega) (by omega) hs1)
  have hO := World.ownsRow_nil w1 (R + 1) 5 1
  clear hTG
  refine Calls.mono C1.out ?_
  rintro e w2 ⟨rfl, hR2, ho2⟩
  have hP2 := hP1.call hR2 ho2
  clear C1 hR2 ho2 hP1 hO
  generalize hS1 : rsame [84, 71] (.ok l) = s1 at *
  replace hS1 := Lib.hid hS1
  have C2 := Lib.hid (reader_num C R 1 128 s1 w2 hP2.rd)
  go_wp2_with fail
  refine Calls.mono C2.out ?_
  rintro e w3 ⟨W, rfl, ⟨hW0, hW1⟩, hWx, hR3, ho3⟩
  have hP3 := hP2.call hR3 ho3
  clear C2 hR3 ho3 hP2
  generalize hS2 : rnum 1 128 s1 = p2 at *
  replace hS2 := Lib.hid hS2
  have C3 := Lib.hid (reader_num C R 1 128 p2.2 _ (hP3.setW W).rd)
  have g0 := hP3.g.cell (i := 0) rfl
  have f0 := hP3.g.free 0
  have hP4 := hP3.setW W
  go_wp2_with fail
  refine Calls.mono C3.out ?_
  rintro e w4 ⟨H, rfl, ⟨hH0, hH1⟩, hHx, hR4, ho4⟩
  replace hP4 := hP4.call hR4 ho4
  clear C3 hR4 ho4 hP3 g0 f0
  generalize hS3 : rnum 1 128 p2.2 = p3 at *
  replace hS3 := Lib.hid hS3
  have g1 := hP4.g.cell (i := 1) rfl
  have f1 := hP4.g.free 1
  have hP5 := hP4.setH H
  have k0 := hP5.g.cell (i := 0) rfl
  have k1 := hP5.g.cell (i := 1) rfl
  have hs4 : R + 1 ≤ (w4.setCell ⟨G, 1, none⟩ (.int .i64 H)).heap.size := by have := hP5.rd.lt; omega
  obtain ⟨K0, hKw, hT0, hK0, hWH⟩ := loop_start hS2.out hS3.out hWx hHx
  have HT0 := Lib.hid hT0
  have HK0 := Lib.hid hK0
  have HWH := Lib.hid hWH
  clear hWx hHx hT0 hK0 hWH
  go_wp2_with fail
  clear hKw k0 k1 g1 f1 hP4
  generalize w4.setCell ⟨G, 1, none⟩ (.int .i64 H) = w5 at *
  go_loopw [6] (fun v6 wr => ∃ (k : Int) (s : St) (zs : List Int) (A' : Option Addr) (c' : Nat), v6 = .int .i64 k ∧ MP w wr n C G R s W H A' zs.length c' ∧ wr.ownsRow (R + 1) 5 1 (.slice A' zs.length c') zs.length (nums .u8 zs) ∧ R + 1 ≤ wr.heap.size ∧ Hid (TLink (rtiles (p2.1 * p3.1).toNat p3.2) zs k s) ∧ Hid (∀ r, s = .ok r → 0 ≤ k ∧ k + zs.length ≤ 16384) ∧ zs.length ≤ 16384) (fun v6 _ => (intOf v6).toNat)
  case atStart => exact ⟨K0, p3.2, [], none, 0, rfl, hP5, World.ownsRow_nil _ _ _ _, hs4, HT0, HK0, by simp⟩
  clear hP5 hs4 HT0 HK0
  case round =>
    obtain ⟨k, s, zs, A', c', rfl, hP, hown, hsz, HT, HB, hzl⟩ := hrel
    generalize wr = wr at *
    obtain ⟨_, A2, n2, cp2, x2, hB2, ⟨hx0, hx1⟩, hs2⟩ := id hP.rd
    have d0 := hB2.cell (i := 0) rfl
    have d1 := hB2.cell (i := 1) rfl
    by_cases hcont : 0 < k ∧ ∃ r, s = .ok r
    · obtain ⟨hk0, r, rfl⟩ := hcont
      obtain ⟨rfl, hl2⟩ := hs2
      obtain ⟨j, rfl⟩ : ∃ j : Nat, k = (j : Int) + 1 := ⟨(k - 1).toNat, by omega⟩
      obtain ⟨_, hb2⟩ := HB.out r rfl
      have C1 := Lib.hid (reader_byte C R (.ok r) wr hP.rd)
      clear hl2 hB2 HB
      go_wp2_with fail
      refine Calls.mono C1.out ?_
      rintro e w1 ⟨x, rfl, ⟨x0, x1⟩, hxx, hR1, ho1⟩
      have hP1 := hP.call hR1 ho1
      have hown1 := own_only hown ho1 (Nat.lt_succ_self R)
      have hsz1 := Nat.le_trans hsz ho1.size
      have HT1 := Lib.hid (tlink_next HT.out hxx)
      clear C1 hxx HT hR1 ho1 hP hown hsz d0 d1
      have C2 := Lib.hid (reader_must C R (decide (x ≤ 5)) _ w1 hP1.rd)
      generalize (rbyte (.ok r)).2 = s1' at *
      go_wp2_with fail
      refine Calls.mono C2.out ?_
      rintro e w2 ⟨rfl, hR2, ho2⟩
      have hP2 := hP1.call hR2 ho2
      have hown2 := own_only hown1 ho2 (Nat.lt_succ_self R)
      have hsz2 := Nat.le_trans hsz1 ho2.size
      clear C2 hR2 ho2 hP1 hown1 hsz1
      generalize rmust (decide (x ≤ 5)) s1' = s2' at *
      have g2 := hP2.g.cell (i := 2) rfl
      have cA : zs.length + 1 ≤ maxLen := by unfold maxLen; omega
      go_wp2_with (at_builtin; (refine wpList_push w2 _ rfl _ _ _ rfl (R + 1) 5 i0 _ 1 1 Try.underlying37 hi0 hy0 hy1 hy2 rfl Nat.one_pos _ _ _ rfl hown2 [.int .u8 x] rfl rfl rfl (one_int _ _) cA (by omega) hsz2 ?_); intro A3 c3 w3 hown3 hb3; have hP3 := hP2.grow hb3; have g3 := hP3.g.cell (i := 2) rfl; have f3 := hP3.g.free 2)
      rw [nums_snoc] at hown3
      have hP4 := hP3.setT A3 (zs.length + 1) c3
      have hown4 := own_set (o := 2) hown3 (show G < R + 1 by have := hP3.lt2; omega) (.slice A3 (zs.length + 1) c3)
      have hsz4 : R + 1 ≤ (w3.setCell ⟨G, 2, none⟩ (.slice A3 (zs.length + 1) c3)).heap.size := by have := hP4.rd.lt; omega
      have hz2 : (zs ++ [x]).length = zs.length + 1 := by simp
      rw [← hz2] at hP4 hown4 hsz4
      replace hP4 := Lib.hid hP4
      replace hown4 := Lib.hid hown4
      replace hsz4 := Lib.hid hsz4
      replace hz2 := Lib.hid hz2
      clear hP2 hP3 hown2 hown3 hb3 g2 g3 f3 hsz2
      go_roundw
      case rel => exact ⟨j, s2', zs ++ [x], A3, c3, by go_num, by have := hP4.out; rw [hz2.out] at this ⊢; exact this, by have := hown4.out; rw [hz2.out] at this ⊢; exact this, by have := hsz4.out; rw [hz2.out] at this; exact this, HT1, Lib.hid (fun r _ => by rw [hz2.out]; omega), by rw [hz2.out]; omega⟩
      case measure => simp [intOf]
    · have HK : Hid (∀ r, s = .ok r → k = 0) := fun r hr => by have := (HB.out r hr).1; by_cases h0 : 0 < k; exact absurd ⟨h0, r, hr⟩ hcont; omega
      have hn2 : n2 ≤ n := by
        cases s with
        | ok r => exact hs2.2.2.2.2.2.1
        | bad e => exact hs2.2.2.1
      have HQ : Hid (∀ r, s = .ok r → n - n2 = l.length - r.length) := fun r hr => by subst hr; have := hs2.2.len; have := hll.out; omega
      have hd : ¬ 0 < k ∨ (0 < k ∧ (x2 == 0) = false) := by
        by_cases h0 : 0 < k
        · refine .inr ⟨h0, ?_⟩
          cases s with
          | ok r => exact absurd ⟨h0, r, rfl⟩ hcont
          | bad e => have := hs2.2.1; rw [hs2.1]; simpa using this
        · exact .inl h0
      clear hcont HB hs2
      rcases hd with hk0 | ⟨hk0, hx⟩
      · go_wp2_with fail
        obtain ⟨q, hq⟩ : ∃ q : Nat, q = n - n2 := ⟨_, rfl⟩
        rw [← hq] at HQ
        have hqn : q ≤ n := by omega
        have hqc : q ≤ c := Nat.le_trans hqn hl.2.2.1
        have HE := Lib.hid (map_end (W := W) (H := H) hS1.out hS2.out hS3.out HT.out HWH.out HK.out HQ.out)
        have HD : Hid (wr.drew = wr.drew) := rfl
        have hPd : MP w wr.drew n C G R s W H A' zs.length c' := ⟨hP.rd.drew, hP.res, hP.g, hP.below.drew, hP.lt1, hP.lt2⟩
        have hownd := hown.drew
        have hszd : R + 1 ≤ wr.drew.heap.size := hsz
        have dd0 : wr.drew.cell? ⟨R, 0, none⟩ = some (.slice A2 n2 cp2) := d0
        generalize hwd : wr.drew = wd at HD hPd hownd hszd dd0
        replace hwd := Lib.hid hwd
        have hq1 : IntKind.i64.wrap ((n : Int) - (n2 : Int)) = (q : Int) := by rw [IntWalk.i64_in _ (by omega)]; omega
        have hq2 : (0 : Int) ≤ (q : Int) := by omega
        have hq3 : (q : Int) ≤ (n : Int) := by omega
        have hrA : Reads wd C 1 A n (nums .u8 l) := (hl.1.more hB).below hPd.below
        have hrq := hrA.first hqn
        have hbq : IsBytes (l.take q) := fun x hx => hl.2.1 x (List.mem_of_mem_take hx)
        have CS := Lib.hid (fnv_sum fstart A q c _ (l.take q) wd hrq hbq (by unfold maxLen; omega))
        have hf := fsum_range fstart (l.take q) (by unfold fstart; decide)
        have C8 := Lib.hid (fnv_eight (fsum fstart (l.take q)) wd hf.1 hf.2)
        have h8 := eight_len (fsum fstart (l.take q))
        have CSame := Lib.hid (fun A8 c8 w' (hO : w'.ownsRow wd.heap.size 5 1 (.slice A8 8 c8) 8 (nums .u8 (eight (fsum fstart (l.take q))))) (hb : Below wd.heap.size wd w') => reader_same (M := n) C R A8 8 c8 w'.heap.size (eight (fsum fstart (l.take q))) s w' ((hPd.rd).below (hb.mono hszd)) (Reads.of_own hO) (fun kk hkk => by
          obtain ⟨gg, _, hv, hbg, _⟩ := hO.form (by omega)
          injection hv with hA8
          rw [hkk] at hA8
          injection hA8 with hA8
          subst hA8
          have : wd.heap.size ≤ gg := hbg
          show gg ≠ R
          omega) (by omega) (Nat.le_refl _))
        replace h8 := Lib.hid h8
        clear hq d0 d1 hB2 hrA hrq hbq hf
        refine' wp_region_chain (fun _ => True) (fun w' => w' = wd) [Tie.val _, Tie.val _, Tie.val _, Tie.val _, Tie.val _, Tie.val _, Tie.val _, Tie.val _, Tie.val _, Tie.val _, Tie.val _, Tie.val _, Tie.val _, Tie.link (fun v w' => ∃ A8 c8, v = .slice A8 8 c8 ∧ w'.ownsRow wd.heap.size 5 1 (.slice A8 8 c8) 8 (nums .u8 (eight (fsum fstart (l.take q)))) ∧ Below wd.heap.size wd w'), Tie.link (fun v w' => v = .tuple #[] ∧ Rd n w' C R (rsame (eight (fsum fstart (l.take q))) s) ∧ Only R wd w')] (A := _) ?hAa (by kernel_rfl) (by kernel_rfl) (by rfl) (by kernel_rfl) (trivial) (hwd.out) ?stepsa ?henda
        case hAa =>
          intro us X hX
          simp only [fillT, Act.put, List.setIfInBounds_toArray, List.set_cons_zero, List.set_cons_succ, Nat.reduceAdd]
          (try go_simp)
          exact hX
        case stepsa =>
          refine ⟨fun us W' s' HR hs hst K hK => ?_, ?_⟩
          · (try clear hst); (try clear hs)
            go_simp
            refine hK _ ?_
            rfl
          refine ⟨fun us W' s' HR hs hst K hK => ?_, ?_⟩
          · obtain rfl : s' = 0 := Nat.le_zero.1 hs
            obtain rfl : W' = wd := hst
            go_simp
            (with_reducible refine Calls.mono (fnv_start _) ?_)
            rintro e wn ⟨rfl, rfl⟩
            refine hK _ ?_
            rfl
          refine ⟨fun us W' s' HR hs hst K hK => ?_, ?_⟩
          · obtain rfl : s' = 0 := Nat.le_zero.1 hs
            obtain rfl : W' = wd := hst
            (try clear hst); (try clear hs)
            go_simp
            refine hK _ ?_
            rfl
          refine ⟨fun us W' s' HR hs hst K hK => ?_, ?_⟩
          · obtain rfl : s' = 0 := Nat.le_zero.1 hs
            obtain rfl : W' = wd := hst
            (try clear hst); (try clear hs)
            go_simp
            refine hK _ ?_
            rfl
          refine ⟨fun us W' s' HR hs hst K hK => ?_, ?_⟩
          · obtain rfl : s' = 0 := Nat.le_zero.1 hs
            obtain rfl : W' = wd := hst
            (try clear hst); (try clear hs)
            go_simp
            refine hK _ ?_
            rfl
          refine ⟨fun us W' s' HR hs hst K hK => ?_, ?_⟩
          · obtain rfl : s' = 0 := Nat.le_zero.1 hs
            obtain rfl : W' = wd := hst
            (try clear hst); (try clear hs)
            go_simp
            refine hK _ ?_
            rfl
          refine ⟨fun us W' s' HR hs hst K hK => ?_, ?_⟩
          · obtain rfl : s' = 0 := Nat.le_zero.1 hs
            obtain rfl : W' = wd := hst
            (try clear hst); (try clear hs)
            go_simp
            refine hK _ ?_
            rfl
          refine ⟨fun us W' s' HR hs hst K hK => ?_, ?_⟩
          · obtain rfl : s' = 0 := Nat.le_zero.1 hs
            obtain rfl : W' = wd := hst
            (try clear hst); (try clear hs)
            go_simp
            refine hK _ ?_
            rfl
          refine ⟨fun us W' s' HR hs hst K hK => ?_, ?_⟩
          · obtain rfl : s' = 0 := Nat.le_zero.1 hs
            obtain rfl : W' = wd := hst
            (try clear hst); (try clear hs)
            go_simp
            refine hK _ ?_
            rfl
          refine ⟨fun us W' s' HR hs hst K hK => ?_, ?_⟩
          · obtain rfl : s' = 0 := Nat.le_zero.1 hs
            obtain rfl : W' = wd := hst
            (try clear hst); (try clear hs)
            go_simp
            refine hK _ ?_
            rfl
          refine ⟨fun us W' s' HR hs hst K hK => ?_, ?_⟩
          · obtain rfl : s' = 0 := Nat.le_zero.1 hs
            obtain rfl : W' = wd := hst
            (try clear hst); (try clear hs)
            go_simp
            refine hK _ ?_
            rfl
          refine ⟨fun us W' s' HR hs hst K hK => ?_, ?_⟩
          · obtain rfl : s' = 0 := Nat.le_zero.1 hs
            obtain rfl : W' = wd := hst
            (try clear hst); (try clear hs)
            go_simp
            refine hK _ ?_
            rfl
          refine ⟨fun us W' s' HR hs hst K hK => ?_, ?_⟩
          · obtain rfl : s' = 0 := Nat.le_zero.1 hs
            obtain rfl : W' = wd := hst
            go_simp
            (with_reducible refine Calls.mono CS.out ?_)
            rintro e wn ⟨rfl, rfl⟩
            refine hK _ ?_
            rfl
          refine ⟨fun us W' HR hst K hK => ?_, ?_⟩
          · obtain rfl : W' = wd := hst
            go_simp
            (with_reducible refine Calls.mono C8.out ?_)
            rintro e wn ⟨A8, c8, rfl, hO8, hb8⟩
            exact hK _ _ trivial ⟨A8, c8, by rw [h8.out], by rw [h8.out] at hO8; exact hO8, hb8⟩
          refine ⟨fun us W' HR hst K hK => ?_, ?_⟩
          · obtain ⟨A8, c8, e13, hO8, hb8⟩ : ∃ A8 c8, us 13 = _ ∧ _ := hst
            simp only [e13] at hK ⊢
            have C := CSame.out A8 c8 W' hO8 hb8
            go_simp
            (with_reducible refine Calls.mono C ?_)
            rintro e wn ⟨rfl, hR9, ho9⟩
            exact hK _ _ trivial ⟨rfl, hR9, ((Only.refl R wd).below hb8).trans ho9⟩
          trivial
        case henda =>
          intro us W' HR hst
          obtain ⟨e14, hR5, ho5⟩ : us 14 = _ ∧ _ := hst
          clear HR CS C8 CSame h8 hq1 hq2 hq3 dd0
          have hP6 := hPd.call hR5 ho5
          have hown6 := own_only hownd ho5 (Nat.lt_succ_self R)
          clear hR5 ho5 hPd hownd e14
          generalize rsame (eight (fsum fstart (l.take q))) s = s5 at *
          have C9 := Lib.hid (reader_end C R s5 W' hP6.rd)
          go_wp2_with fail
          refine Calls.mono C9.out ?_
          rintro e w7 ⟨rfl, hR7, ho7⟩
          have hP7 := hP6.call hR7 ho7
          have hown7 := own_only hown6 ho7 (Nat.lt_succ_self R)
          clear C9 hR7 ho7 hP6 hown6
          generalize rend s5 = s6 at *
          obtain ⟨_, A7, n7, c7, x7, hB7, ⟨y0, y1⟩, hs7⟩ := id hP7.rd
          have d1 := hB7.cell (i := 1) rfl
          have r0 := hP7.res.cell (i := 0) rfl
          have r1 := hP7.res.cell (i := 1) rfl
          have r2 := hP7.res.cell (i := 2) rfl
          have q0 := hP7.res.free 0
          have q1 := hP7.res.free 1
          have q2 := hP7.res.free 2
          have g0 := hP7.g.cell (i := 0) rfl
          have g1 := hP7.g.cell (i := 1) rfl
          have g2 := hP7.g.cell (i := 2) rfl
          cases s6 with
          | bad e =>
            obtain ⟨rfl, he, _⟩ := hs7
            have d : (x7 != 0) = true := by simpa using he
            have HE2 : Hid (parseG l = ((0, 0, []), x7)) := HE.out
            have hb7 := hP7.below
            have hlt := hP7.lt1
            have hlt2 := hP7.lt2
            have hz0 : Blk (((w7.setCell ⟨C, 0, none⟩ (.int .i64 0)).setCell ⟨C, 1, none⟩ (.int .i64 0)).setCell ⟨C, 2, none⟩ (.slice none 0 0)) C #[.int .i64 0, .int .i64 0, .slice none 0 0] 39 := ((hP7.res.set 0 _).set 1 _).set 2 _
            have hz1 : Below C w (((w7.setCell ⟨C, 0, none⟩ (.int .i64 0)).setCell ⟨C, 1, none⟩ (.int .i64 0)).setCell ⟨C, 2, none⟩ (.slice none 0 0)) := ((hb7.setCell (Nat.le_refl C) _).setCell (Nat.le_refl C) _).setCell (Nat.le_refl C) _
            replace hz0 := Lib.hid hz0
            replace hz1 := Lib.hid hz1
            clear HE hB7 hP7
            go_wp2_with fail
            go_region
            replace hz0 := hz0.out.drew
            replace hz1 := hz1.out.drew
            clear d1 r0 r1 r2 q0 q1 q2 g0 g1 g2
            generalize (((w7.setCell ⟨C, 0, none⟩ (.int .i64 0)).setCell ⟨C, 1, none⟩ (.int .i64 0)).setCell ⟨C, 2, none⟩ (.slice none 0 0)).drew = w8 at *
            have r0 := hz0.cell (i := 0) rfl
            have r1 := hz0.cell (i := 1) rfl
            have r2 := hz0.cell (i := 2) rfl
            go_wp2_with fail
            refine bodyPost_ret (v := .tuple #[.agg #[.int .i64 0, .int .i64 0, .slice none 0 0], .int .i64 x7]) (by simp [results, Try.results48, go_sem, r0, r1, r2]) rfl ?_
            rw [HE2.out]
            exact ⟨none, 0, rfl, World.ownsRow_nil _ _ _ _, by rw [hC.out]; exact hz1⟩
          | ok r =>
            obtain ⟨rfl, _⟩ := hs7
            have HE2 : Hid (parseG l = ((W, H, zs), 0)) := HE.out
            have hb7 := hP7.below
            have hlt := hP7.lt1
            have hlt2 := hP7.lt2
            have hz0 : Blk (((w7.setCell ⟨C, 0, none⟩ (.int .i64 W)).setCell ⟨C, 1, none⟩ (.int .i64 H)).setCell ⟨C, 2, none⟩ (.slice A' zs.length c')) C #[.int .i64 W, .int .i64 H, .slice A' zs.length c'] 39 := ((hP7.res.set 0 _).set 1 _).set 2 _
            have hz1 : Below C w (((w7.setCell ⟨C, 0, none⟩ (.int .i64 W)).setCell ⟨C, 1, none⟩ (.int .i64 H)).setCell ⟨C, 2, none⟩ (.slice A' zs.length c')) := ((hb7.setCell (Nat.le_refl C) _).setCell (Nat.le_refl C) _).setCell (Nat.le_refl C) _
            have hz2 := own_set (o := 2) (own_set (o := 1) (own_set (o := 0) hown7 (show C < R + 1 by omega) (.int .i64 W)) (show C < R + 1 by omega) (.int .i64 H)) (show C < R + 1 by omega) (.slice A' zs.length c')
            replace hz0 := Lib.hid hz0
            replace hz1 := Lib.hid hz1
            replace hz2 := Lib.hid hz2
            clear HE hB7 hP7 hown7
            go_wp2_with fail
            clear d1 r0 r1 r2 q0 q1 q2 g0 g1 g2
            generalize ((w7.setCell ⟨C, 0, none⟩ (.int .i64 W)).setCell ⟨C, 1, none⟩ (.int .i64 H)).setCell ⟨C, 2, none⟩ (.slice A' zs.length c') = w8 at *
            have r0 := hz0.out.cell (i := 0) rfl
            have r1 := hz0.out.cell (i := 1) rfl
            have r2 := hz0.out.cell (i := 2) rfl
            refine bodyPost_ret (v := .tuple #[.agg #[.int .i64 W, .int .i64 H, .slice A' zs.length c'], .int .i64 0]) (by simp [results, Try.results48, go_sem, r0, r1, r2]) rfl ?_
            rw [HE2.out]
            exact ⟨A', c', rfl, own_mono hz2.out (by rw [hC.out]; omega), by rw [hC.out]; exact hz1.out⟩
      · go_wp2_with fail
        obtain ⟨q, hq⟩ : ∃ q : Nat, q = n - n2 := ⟨_, rfl⟩
        rw [← hq] at HQ
        have hqn : q ≤ n := by omega
        have hqc : q ≤ c := Nat.le_trans hqn hl.2.2.1
        have HE := Lib.hid (map_end (W := W) (H := H) hS1.out hS2.out hS3.out HT.out HWH.out HK.out HQ.out)
        have HD : Hid (wr.drew = wr.drew) := rfl
        have hPd : MP w wr.drew n C G R s W H A' zs.length c' := ⟨hP.rd.drew, hP.res, hP.g, hP.below.drew, hP.lt1, hP.lt2⟩
        have hownd := hown.drew
        have hszd : R + 1 ≤ wr.drew.heap.size := hsz
        have dd0 : wr.drew.cell? ⟨R, 0, none⟩ = some (.slice A2 n2 cp2) := d0
        generalize hwd : wr.drew = wd at HD hPd hownd hszd dd0
        replace hwd := Lib.hid hwd
        have hq1 : IntKind.i64.wrap ((n : Int) - (n2 : Int)) = (q : Int) := by rw [IntWalk.i64_in _ (by omega)]; omega
        have hq2 : (0 : Int) ≤ (q : Int) := by omega
        have hq3 : (q : Int) ≤ (n : Int) := by omega
        have hrA : Reads wd C 1 A n (nums .u8 l) := (hl.1.more hB).below hPd.below
        have hrq := hrA.first hqn
        have hbq : IsBytes (l.take q) := fun x hx => hl.2.1 x (List.mem_of_mem_take hx)
        have CS := Lib.hid (fnv_sum fstart A q c _ (l.take q) wd hrq hbq (by unfold maxLen; omega))
        have hf := fsum_range fstart (l.take q) (by unfold fstart; decide)
        have C8 := Lib.hid (fnv_eight (fsum fstart (l.take q)) wd hf.1 hf.2)
        have h8 := eight_len (fsum fstart (l.take q))
        have CSame := Lib.hid (fun A8 c8 w' (hO : w'.ownsRow wd.heap.size 5 1 (.slice A8 8 c8) 8 (nums .u8 (eight (fsum fstart (l.take q))))) (hb : Below wd.heap.size wd w') => reader_same (M := n) C R A8 8 c8 w'.heap.size (eight (fsum fstart (l.take q))) s w' ((hPd.rd).below (hb.mono hszd)) (Reads.of_own hO) (fun kk hkk => by
          obtain ⟨gg, _, hv, hbg, _⟩ := hO.form (by omega)
          injection hv with hA8
          rw [hkk] at hA8
          injection hA8 with hA8
          subst hA8
          have : wd.heap.size ≤ gg := hbg
          show gg ≠ R
          omega) (by omega) (Nat.le_refl _))
        replace h8 := Lib.hid h8
        clear hq d0 d1 hB2 hrA hrq hbq hf
        refine' wp_region_chain (fun _ => True) (fun w' => w' = wd) [Tie.val _, Tie.val _, Tie.val _, Tie.val _, Tie.val _, Tie.val _, Tie.val _, Tie.val _, Tie.val _, Tie.val _, Tie.val _, Tie.val _, Tie.val _, Tie.link (fun v w' => ∃ A8 c8, v = .slice A8 8 c8 ∧ w'.ownsRow wd.heap.size 5 1 (.slice A8 8 c8) 8 (nums .u8 (eight (fsum fstart (l.take q)))) ∧ Below wd.heap.size wd w'), Tie.link (fun v w' => v = .tuple #[] ∧ Rd n w' C R (rsame (eight (fsum fstart (l.take q))) s) ∧ Only R wd w')] (A := _) ?hAb (by kernel_rfl) (by kernel_rfl) (by rfl) (by kernel_rfl) (trivial) (hwd.out) ?stepsb ?hendb
        case hAb =>
          intro us X hX
          simp only [fillT, Act.put, List.setIfInBounds_toArray, List.set_cons_zero, List.set_cons_succ, Nat.reduceAdd]
          (try go_simp)
          exact hX
        case stepsb =>
          refine ⟨fun us W' s' HR hs hst K hK => ?_, ?_⟩
          · (try clear hst); (try clear hs)
            go_simp
            refine hK _ ?_
            rfl
          refine ⟨fun us W' s' HR hs hst K hK => ?_, ?_⟩
          · obtain rfl : s' = 0 := Nat.le_zero.1 hs
            obtain rfl : W' = wd := hst
            go_simp
            (with_reducible refine Calls.mono (fnv_start _) ?_)
            rintro e wn ⟨rfl, rfl⟩
            refine hK _ ?_
            rfl
          refine ⟨fun us W' s' HR hs hst K hK => ?_, ?_⟩
          · obtain rfl : s' = 0 := Nat.le_zero.1 hs
            obtain rfl : W' = wd := hst
            (try clear hst); (try clear hs)
            go_simp
            refine hK _ ?_
            rfl
          refine ⟨fun us W' s' HR hs hst K hK => ?_, ?_⟩
          · obtain rfl : s' = 0 := Nat.le_zero.1 hs
            obtain rfl : W' = wd := hst
            (try clear hst); (try clear hs)
            go_simp
            refine hK _ ?_
            rfl
          refine ⟨fun us W' s' HR hs hst K hK => ?_, ?_⟩
          · obtain rfl : s' = 0 := Nat.le_zero.1 hs
            obtain rfl : W' = wd := hst
            (try clear hst); (try clear hs)
            go_simp
            refine hK _ ?_
            rfl
          refine ⟨fun us W' s' HR hs hst K hK => ?_, ?_⟩
          · obtain rfl : s' = 0 := Nat.le_zero.1 hs
            obtain rfl : W' = wd := hst
            (try clear hst); (try clear hs)
            go_simp
            refine hK _ ?_
            rfl
          refine ⟨fun us W' s' HR hs hst K hK => ?_, ?_⟩
          · obtain rfl : s' = 0 := Nat.le_zero.1 hs
            obtain rfl : W' = wd := hst
            (try clear hst); (try clear hs)
            go_simp
            refine hK _ ?_
            rfl
          refine ⟨fun us W' s' HR hs hst K hK => ?_, ?_⟩
          · obtain rfl : s' = 0 := Nat.le_zero.1 hs
            obtain rfl : W' = wd := hst
            (try clear hst); (try clear hs)
            go_simp
            refine hK _ ?_
            rfl
          refine ⟨fun us W' s' HR hs hst K hK => ?_, ?_⟩
          · obtain rfl : s' = 0 := Nat.le_zero.1 hs
            obtain rfl : W' = wd := hst
            (try clear hst); (try clear hs)
            go_simp
            refine hK _ ?_
            rfl
          refine ⟨fun us W' s' HR hs hst K hK => ?_, ?_⟩
          · obtain rfl : s' = 0 := Nat.le_zero.1 hs
            obtain rfl : W' = wd := hst
            (try clear hst); (try clear hs)
            go_simp
            refine hK _ ?_
            rfl
          refine ⟨fun us W' s' HR hs hst K hK => ?_, ?_⟩
          · obtain rfl : s' = 0 := Nat.le_zero.1 hs
            obtain rfl : W' = wd := hst
            (try clear hst); (try clear hs)
            go_simp
            refine hK _ ?_
            rfl
          refine ⟨fun us W' s' HR hs hst K hK => ?_, ?_⟩
          · obtain rfl : s' = 0 := Nat.le_zero.1 hs
            obtain rfl : W' = wd := hst
            (try clear hst); (try clear hs)
            go_simp
            refine hK _ ?_
            rfl
          refine ⟨fun us W' s' HR hs hst K hK => ?_, ?_⟩
          · obtain rfl : s' = 0 := Nat.le_zero.1 hs
            obtain rfl : W' = wd := hst
            go_simp
            (with_reducible refine Calls.mono CS.out ?_)
            rintro e wn ⟨rfl, rfl⟩
            refine hK _ ?_
            rfl
          refine ⟨fun us W' HR hst K hK => ?_, ?_⟩
          · obtain rfl : W' = wd := hst
            go_simp
            (with_reducible refine Calls.mono C8.out ?_)
            rintro e wn ⟨A8, c8, rfl, hO8, hb8⟩
            exact hK _ _ trivial ⟨A8, c8, by rw [h8.out], by rw [h8.out] at hO8; exact hO8, hb8⟩
          refine ⟨fun us W' HR hst K hK => ?_, ?_⟩
          · obtain ⟨A8, c8, e13, hO8, hb8⟩ : ∃ A8 c8, us 13 = _ ∧ _ := hst
            simp only [e13] at hK ⊢
            have C := CSame.out A8 c8 W' hO8 hb8
            go_simp
            (with_reducible refine Calls.mono C ?_)
            rintro e wn ⟨rfl, hR9, ho9⟩
            exact hK _ _ trivial ⟨rfl, hR9, ((Only.refl R wd).below hb8).trans ho9⟩
          trivial
        case hendb =>
          intro us W' HR hst
          obtain ⟨e14, hR5, ho5⟩ : us 14 = _ ∧ _ := hst
          clear HR CS C8 CSame h8 hq1 hq2 hq3 dd0
          have hP6 := hPd.call hR5 ho5
          have hown6 := own_only hownd ho5 (Nat.lt_succ_self R)
          clear hR5 ho5 hPd hownd e14
          generalize rsame (eight (fsum fstart (l.take q))) s = s5 at *
          have C9 := Lib.hid (reader_end C R s5 W' hP6.rd)
          go_wp2_with fail
          refine Calls.mono C9.out ?_
          rintro e w7 ⟨rfl, hR7, ho7⟩
          have hP7 := hP6.call hR7 ho7
          have hown7 := own_only hown6 ho7 (Nat.lt_succ_self R)
          clear C9 hR7 ho7 hP6 hown6
          generalize rend s5 = s6 at *
          obtain ⟨_, A7, n7, c7, x7, hB7, ⟨y0, y1⟩, hs7⟩ := id hP7.rd
          have d1 := hB7.cell (i := 1) rfl
          have r0 := hP7.res.cell (i := 0) rfl
          have r1 := hP7.res.cell (i := 1) rfl
          have r2 := hP7.res.cell (i := 2) rfl
          have q0 := hP7.res.free 0
          have q1 := hP7.res.free 1
          have q2 := hP7.res.free 2
          have g0 := hP7.g.cell (i := 0) rfl
          have g1 := hP7.g.cell (i := 1) rfl
          have g2 := hP7.g.cell (i := 2) rfl
          cases s6 with
          | bad e =>
            obtain ⟨rfl, he, _⟩ := hs7
            have d : (x7 != 0) = true := by simpa using he
            have HE2 : Hid (parseG l = ((0, 0, []), x7)) := HE.out
            have hb7 := hP7.below
            have hlt := hP7.lt1
            have hlt2 := hP7.lt2
            have hz0 : Blk (((w7.setCell ⟨C, 0, none⟩ (.int .i64 0)).setCell ⟨C, 1, none⟩ (.int .i64 0)).setCell ⟨C, 2, none⟩ (.slice none 0 0)) C #[.int .i64 0, .int .i64 0, .slice none 0 0] 39 := ((hP7.res.set 0 _).set 1 _).set 2 _
            have hz1 : Below C w (((w7.setCell ⟨C, 0, none⟩ (.int .i64 0)).setCell ⟨C, 1, none⟩ (.int .i64 0)).setCell ⟨C, 2, none⟩ (.slice none 0 0)) := ((hb7.setCell (Nat.le_refl C) _).setCell (Nat.le_refl C) _).setCell (Nat.le_refl C) _
            replace hz0 := Lib.hid hz0
            replace hz1 := Lib.hid hz1
            clear HE hB7 hP7
            go_wp2_with fail
            go_region
            replace hz0 := hz0.out.drew
            replace hz1 := hz1.out.drew
            clear d1 r0 r1 r2 q0 q1 q2 g0 g1 g2
            generalize (((w7.setCell ⟨C, 0, none⟩ (.int .i64 0)).setCell ⟨C, 1, none⟩ (.int .i64 0)).setCell ⟨C, 2, none⟩ (.slice none 0 0)).drew = w8 at *
            have r0 := hz0.cell (i := 0) rfl
            have r1 := hz0.cell (i := 1) rfl
            have r2 := hz0.cell (i := 2) rfl
            go_wp2_with fail
            refine bodyPost_ret (v := .tuple #[.agg #[.int .i64 0, .int .i64 0, .slice none 0 0], .int .i64 x7]) (by simp [results, Try.results48, go_sem, r0, r1, r2]) rfl ?_
            rw [HE2.out]
            exact ⟨none, 0, rfl, World.ownsRow_nil _ _ _ _, by rw [hC.out]; exact hz1⟩
          | ok r =>
            obtain ⟨rfl, _⟩ := hs7
            have HE2 : Hid (parseG l = ((W, H, zs), 0)) := HE.out
            have hb7 := hP7.below
            have hlt := hP7.lt1
            have hlt2 := hP7.lt2
            have hz0 : Blk (((w7.setCell ⟨C, 0, none⟩ (.int .i64 W)).setCell ⟨C, 1, none⟩ (.int .i64 H)).setCell ⟨C, 2, none⟩ (.slice A' zs.length c')) C #[.int .i64 W, .int .i64 H, .slice A' zs.length c'] 39 := ((hP7.res.set 0 _).set 1 _).set 2 _
            have hz1 : Below C w (((w7.setCell ⟨C, 0, none⟩ (.int .i64 W)).setCell ⟨C, 1, none⟩ (.int .i64 H)).setCell ⟨C, 2, none⟩ (.slice A' zs.length c')) := ((hb7.setCell (Nat.le_refl C) _).setCell (Nat.le_refl C) _).setCell (Nat.le_refl C) _
            have hz2 := own_set (o := 2) (own_set (o := 1) (own_set (o := 0) hown7 (show C < R + 1 by omega) (.int .i64 W)) (show C < R + 1 by omega) (.int .i64 H)) (show C < R + 1 by omega) (.slice A' zs.length c')
            replace hz0 := Lib.hid hz0
            replace hz1 := Lib.hid hz1
            replace hz2 := Lib.hid hz2
            clear HE hB7 hP7 hown7
            go_wp2_with fail
            clear d1 r0 r1 r2 q0 q1 q2 g0 g1 g2
            generalize ((w7.setCell ⟨C, 0, none⟩ (.int .i64 W)).setCell ⟨C, 1, none⟩ (.int .i64 H)).setCell ⟨C, 2, none⟩ (.slice A' zs.length c') = w8 at *
            have r0 := hz0.out.cell (i := 0) rfl
            have r1 := hz0.out.cell (i := 1) rfl
            have r2 := hz0.out.cell (i := 2) rfl
            refine bodyPost_ret (v := .tuple #[.agg #[.int .i64 W, .int .i64 H, .slice A' zs.length c'], .int .i64 0]) (by simp [results, Try.results48, go_sem, r0, r1, r2]) rfl ?_
            rw [HE2.out]
            exact ⟨A', c', rfl, own_mono hz2.out (by rw [hC.out]; omega), by rw [hC.out]; exact hz1.out⟩
end Go.Proofs.Ytdcilabbjejklaa
