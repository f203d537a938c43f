/- Plain mathematics of maps as bytes: how one is laid, how it is read, there and back. No program is walked here. -/
import Derived.Test.YtdcilabbjejklaaMapReaderM
import Derived.Test.YtdcilabbjejklaaFnvMath
import Derived.Test.YtdcilabbjejklaaGround
namespace Go.Proofs.Ytdcilabbjejklaa
set_option maxRecDepth 20000

def fstart : Int := 14695981039346656037
/-- A sum's eight bytes, lowest first. -/
def eightL : Nat → Int → List Int
  | 0, _ => []
  | n + 1, s => s % 256 :: eightL n (s / 256)
def eight (s : Int) : List Int := eightL 8 s
theorem eightL_len : ∀ (n : Nat) (s : Int), (eightL n s).length = n
  | 0, _ => rfl
  | n + 1, s => by simp [eightL, eightL_len n]
theorem eight_len (s : Int) : (eight s).length = 8 := eightL_len 8 s
theorem eightL_bytes : ∀ (n : Nat) (s : Int), IsBytes (eightL n s)
  | 0, _ => fun x hx => by cases hx
  | n + 1, s => fun x hx => by
    rcases List.mem_cons.1 hx with rfl | hx
    · omega
    · exact eightL_bytes n _ x hx
theorem eightL_inj : ∀ (n : Nat) (s t : Int), 0 ≤ s → s < 256 ^ n → 0 ≤ t → t < 256 ^ n → eightL n s = eightL n t → s = t
  | 0, s, t, h0, h1, h2, h3, _ => by simp at h1 h3; omega
  | n + 1, s, t, h0, h1, h2, h3, h => by
    simp only [eightL, List.cons.injEq] at h
    rw [Int.pow_succ] at h1 h3
    have := eightL_inj n (s / 256) (t / 256) (by omega) (by omega) (by omega) (by omega) h.2
    omega

def headG (W H : Int) (ts : List Int) : List Int := [84, 71] ++ (putI W ++ (putI H ++ ts))
def encG (W H : Int) (ts : List Int) : List Int := headG W H ts ++ eight (fsum fstart (headG W H ts))

def rtile (s : St) : Int × St := ((rbyte s).1, rmust (decide ((rbyte s).1 ≤ 5)) (rbyte s).2)
def rtiles : Nat → St → List Int × St
  | 0 => give []
  | n + 1 => fun s => match s with
    | .bad e => ([], .bad e)
    | .ok l => bnd rtile (fun x => bnd (rtiles n) fun r => give (x :: r)) (.ok l)
def rsameU (cs : List Int) : St → Unit × St := fun s => ((), rsame cs s)
def rhead : St → (Int × Int × List Int) × St :=
  bnd (rsameU [84, 71]) fun _ => bnd (rnum 1 128) fun w => bnd (rnum 1 128) fun h => bnd (rtiles (w * h).toNat) fun ts => give (w, h, ts)
def leftN : St → Nat
  | .ok l => l.length
  | .bad _ => 0
def rground (l : List Int) : (Int × Int × List Int) × St :=
  ((rhead (.ok l)).1, rend (rsame (eight (fsum fstart (l.take (l.length - leftN (rhead (.ok l)).2)))) (rhead (.ok l)).2))
/-- The ground that bytes are, and the error. -/
def parseG (l : List Int) : (Int × Int × List Int) × Int := match (rground l).2 with
  | .ok _ => ((rground l).1, 0)
  | .bad e => ((0, 0, []), e)

theorem stays_same : ∀ cs : List Int, Stays (rsameU cs)
  | [] => fun _ => rfl
  | _ :: cs => fun e => stays_same cs e
theorem stays_tile : Stays rtile := fun _ => rfl
theorem stays_tiles : ∀ n, Stays (rtiles n)
  | 0 => fun _ => rfl
  | _ + 1 => fun _ => rfl
theorem stays_head : Stays rhead := stays_bnd (stays_same _) fun _ => stays_bnd (stays_num _ _) fun _ => stays_bnd (stays_num _ _) fun _ => stays_bnd (stays_tiles _) fun _ => stays_give _

theorem rsame_ok : ∀ (cs r : List Int), rsame cs (.ok (cs ++ r)) = .ok r
  | [], r => rfl
  | c :: cs, r => by
    simp only [rsame, List.cons_append, rbyte, beq_self_eq_true, rmust, if_true]
    exact rsame_ok cs r
theorem rsame_bad (cs : List Int) (e : Int) : rsame cs (.bad e) = .bad e := by
  induction cs with
  | nil => rfl
  | cons c cs ih => exact ih
theorem rsame_cut : ∀ (cs : List Int) (k : Nat), k < cs.length → rsame cs (.ok (cs.take k)) = .bad 11
  | [], k, h => absurd h (by simp)
  | c :: cs, 0, _ => rsame_bad cs 11
  | c :: cs, k + 1, h => by
    simp only [rsame, List.take_succ_cons, rbyte, beq_self_eq_true, rmust, if_true]
    exact rsame_cut cs k (by simpa using h)
theorem rsame_back : ∀ (cs l r : List Int), rsame cs (.ok l) = .ok r → l = cs ++ r
  | [], l, r, h => by simp only [rsame, St.ok.injEq] at h; exact h
  | c :: cs, [], r, h => by rw [show rsame (c :: cs) (.ok []) = rsame cs (.bad 11) from rfl, rsame_bad] at h; cases h
  | c :: cs, y :: l, r, h => by
    simp only [rsame, rbyte, rmust] at h
    by_cases he : y = c
    · subst he
      simp only [beq_self_eq_true, if_true] at h
      rw [rsame_back cs l r h]; rfl
    · have : (y == c) = false := by simpa using he
      simp only [this, Bool.false_eq_true, if_false] at h
      rw [rsame_bad] at h; cases h
theorem reads_same (cs : List Int) : Reads1 (rsameU cs) () cs := ⟨fun r => by simp only [rsameU, rsame_ok], fun k hk => rsame_cut cs k hk⟩
theorem reads_tile {x : Int} (h : x ≤ 5) : Reads1 rtile x [x] := by
  refine ⟨fun r => ?_, fun k hk => ?_⟩
  · simp [rtile, rbyte, rmust, h]
  · obtain rfl : k = 0 := by simp at hk; omega
    rfl
theorem rtiles_succ (n : Nat) (l : List Int) : rtiles (n + 1) (.ok l) = bnd rtile (fun x => bnd (rtiles n) fun r => give (x :: r)) (.ok l) := rfl
theorem reads_tiles : ∀ ts : List Int, (∀ x ∈ ts, x ≤ 5) → Reads1 (rtiles ts.length) ts ts
  | [], _ => reads_give []
  | x :: ts, h => by
    have ih := reads_tiles ts fun y hy => h y (List.mem_cons_of_mem _ hy)
    have R := reads_bnd (reads_tile (h x (List.mem_cons_self ..))) (reads_bnd (g := fun r => give (x :: r)) ih (reads_give (x :: ts)) fun _ => stays_give _) (g := fun x => bnd (rtiles ts.length) fun r => give (x :: r)) (fun _ => stays_bnd (stays_tiles _) fun _ => stays_give _)
    rw [List.append_nil] at R
    exact R
/-- A ground that may be. -/
def okG (W H : Int) (ts : List Int) : Prop := (1 ≤ W ∧ W ≤ 128) ∧ (1 ≤ H ∧ H ≤ 128) ∧ (ts.length : Int) = W * H ∧ ∀ x ∈ ts, x ≤ 5
theorem reads_head {W H : Int} {ts : List Int} (h : okG W H ts) : Reads1 rhead (W, H, ts) (headG W H ts) := by
  obtain ⟨⟨w0, w1⟩, ⟨h0, h1⟩, hl, hb⟩ := h
  have ht : (W * H).toNat = ts.length := by omega
  have T := reads_tiles ts hb
  have T2 : Reads1 (bnd (rtiles (W * H).toNat) fun ts => give (W, H, ts)) (W, H, ts) ts := by
    rw [ht]
    exact reads_nil (reads_bnd T (reads_give _) fun _ => stays_give _)
  refine reads_bnd (reads_same [84, 71]) (reads_bnd (reads_num (lo := 1) (hi := 128) (by omega) (by omega) w0 w1) (reads_bnd (reads_num (lo := 1) (hi := 128) (by omega) (by omega) h0 h1) T2 ?_) ?_) ?_
  · intro x; exact stays_bnd (stays_tiles _) fun _ => stays_give _
  · intro x; exact stays_bnd (stays_num _ _) fun _ => stays_bnd (stays_tiles _) fun _ => stays_give _
  · intro x; exact stays_bnd (stays_num _ _) fun _ => stays_bnd (stays_num _ _) fun _ => stays_bnd (stays_tiles _) fun _ => stays_give _
/-- Behind the head: the sum, and the end. -/
theorem rground_of {W H : Int} {ts : List Int} (h : okG W H ts) (r : List Int) : rground (headG W H ts ++ r) = ((W, H, ts), rend (rsame (eight (fsum fstart (headG W H ts))) (.ok r))) := by
  unfold rground
  rw [(reads_head h).1 r]
  simp only [leftN, List.length_append, Nat.add_sub_cancel, List.take_left]
theorem parse_encG {W H : Int} {ts : List Int} (h : okG W H ts) : parseG (encG W H ts) = ((W, H, ts), 0) := by
  unfold parseG encG
  have e := rsame_ok (eight (fsum fstart (headG W H ts))) []
  rw [List.append_nil] at e
  rw [rground_of h, e]
  rfl
theorem parse_moreG {W H : Int} {ts : List Int} (h : okG W H ts) (x : Int) (r : List Int) : parseG (encG W H ts ++ x :: r) = ((0, 0, []), 1) := by
  unfold parseG encG
  rw [List.append_assoc, rground_of h, rsame_ok]
  rfl
theorem parse_cutG {W H : Int} {ts : List Int} (h : okG W H ts) {k : Nat} (hk : k < (encG W H ts).length) : parseG ((encG W H ts).take k) = ((0, 0, []), 11) := by
  unfold encG at hk ⊢
  by_cases h1 : k < (headG W H ts).length
  · rw [List.take_append_of_le_length (by omega)]
    unfold parseG rground
    rw [(reads_head h).2 k h1, rsame_bad]
    rfl
  · rw [List.take_append, List.take_of_length_le (by omega)]
    unfold parseG
    rw [rground_of h, rsame_cut _ _ (by simp at hk; omega)]
    rfl

/-! Back. -/
theorem back_same (cs : List Int) : Back1 (rsameU cs) (fun _ => True) (fun _ => cs) := fun l v r _ h => by
  simp only [rsameU, Prod.mk.injEq] at h
  exact ⟨trivial, rsame_back cs l r h.2⟩
theorem back_tile : Back1 rtile (fun x => x ≤ 5) (fun x => [x]) := fun l v r _ h => by
  cases l with
  | nil => simp [rtile, rbyte, rmust] at h
  | cons y l =>
    simp only [rtile, rbyte, rmust, Prod.mk.injEq] at h
    obtain ⟨rfl, h2⟩ := h
    by_cases hy : y ≤ 5
    · simp only [hy, decide_true, if_true, St.ok.injEq] at h2
      exact ⟨hy, by rw [h2]; rfl⟩
    · simp [hy] at h2
theorem back_tiles : ∀ n : Nat, Back1 (rtiles n) (fun ts => ts.length = n ∧ ∀ x ∈ ts, x ≤ 5) (fun ts => ts)
  | 0 => fun l v r _ h => by
    simp only [rtiles, give, Prod.mk.injEq, St.ok.injEq] at h
    obtain ⟨rfl, rfl⟩ := h
    exact ⟨⟨rfl, fun x hx => by cases hx⟩, rfl⟩
  | n + 1 => fun l v r hb h => by
    rw [rtiles_succ] at h
    obtain ⟨x, m, hx, hm, rfl, h2⟩ := back_next back_tile (fun _ => stays_bnd (stays_tiles _) fun _ => stays_give _) hb h
    obtain ⟨ts, ht, rfl, rfl⟩ := back_last (F := fun r => x :: r) (back_tiles n) hm h2
    refine ⟨⟨by simp [ht.1], fun y hy => ?_⟩, by simp⟩
    rcases List.mem_cons.1 hy with rfl | hy
    · exact hx
    · exact ht.2 y hy
theorem back_head : Back1 rhead (fun g => okG g.1 g.2.1 g.2.2) (fun g => headG g.1 g.2.1 g.2.2) := fun l v r hb h => by
  obtain ⟨_, m, _, hm, rfl, g1⟩ := back_next (back_same [84, 71]) (fun _ => stays_bnd (stays_num _ _) fun _ => stays_bnd (stays_num _ _) fun _ => stays_bnd (stays_tiles _) fun _ => stays_give _) hb h
  obtain ⟨W, m2, hW, hm2, rfl, g2⟩ := back_next (back_num _ _) (fun _ => stays_bnd (stays_num _ _) fun _ => stays_bnd (stays_tiles _) fun _ => stays_give _) hm g1
  obtain ⟨H, m3, hH, hm3, rfl, g3⟩ := back_next (back_num _ _) (fun _ => stays_bnd (stays_tiles _) fun _ => stays_give _) hm2 g2
  obtain ⟨ts, ht, rfl, rfl⟩ := back_last (F := fun ts => (W, H, ts)) (back_tiles _) hm3 g3
  have hp := prod_range hW.2.1 hW.2.2 hH.2.1 hH.2.2
  exact ⟨⟨hW.2, hH.2, by show (ts.length : Int) = W * H; rw [ht.1]; omega, ht.2⟩, by simp [headG]⟩
theorem errs_same (cs : List Int) : Errs (rsameU cs) := fun l => by
  induction cs generalizing l with
  | nil => intro e h; cases h
  | cons c cs ih =>
    intro e h
    cases l with
    | nil =>
      rw [show (rsameU (c :: cs) (.ok [])).2 = rsame cs (.bad 11) from rfl, rsame_bad] at h
      simp only [St.bad.injEq] at h; omega
    | cons y l =>
      by_cases hy : y = c
      · subst hy
        have e2 : (rsameU (y :: cs) (.ok (y :: l))).2 = (rsameU cs (.ok l)).2 := by simp [rsameU, rsame, rbyte, rmust]
        rw [e2] at h
        exact ih l e h
      · have e2 : (rsameU (c :: cs) (.ok (y :: l))).2 = .bad 1 := by simp [rsameU, rsame, rbyte, rmust, hy, rsame_bad]
        rw [e2] at h
        simp only [St.bad.injEq] at h; omega
theorem errs_tile : Errs rtile := fun l e h => by
  cases l with
  | nil => simp only [rtile, rbyte, rmust, St.bad.injEq] at h; omega
  | cons y l =>
    by_cases hy : y ≤ 5
    · simp [rtile, rbyte, rmust, hy] at h
    · simp [rtile, rbyte, rmust, hy] at h; omega
theorem errs_tiles : ∀ n, Errs (rtiles n)
  | 0 => errs_give _
  | n + 1 => errs_bnd errs_tile (fun _ => errs_bnd (errs_tiles n) (fun _ => errs_give _) fun _ => stays_give _) fun _ => stays_bnd (stays_tiles _) fun _ => stays_give _
theorem errs_head : Errs rhead := errs_bnd (errs_same _) (fun _ => errs_bnd (errs_num _ _) (fun _ => errs_bnd (errs_num _ _) (fun _ => errs_bnd (errs_tiles _) (fun _ => errs_give _) fun _ => stays_give _) fun _ => stays_bnd (stays_tiles _) fun _ => stays_give _) fun _ => stays_bnd (stays_num _ _) fun _ => stays_bnd (stays_tiles _) fun _ => stays_give _) fun _ => stays_bnd (stays_num _ _) fun _ => stays_bnd (stays_num _ _) fun _ => stays_bnd (stays_tiles _) fun _ => stays_give _
/-- What is read as a ground may be, and has just these bytes. -/
theorem parse_backG {l : List Int} (hb : IsBytes l) (h : (parseG l).2 = 0) : okG (parseG l).1.1 (parseG l).1.2.1 (parseG l).1.2.2 ∧ l = encG (parseG l).1.1 (parseG l).1.2.1 (parseG l).1.2.2 := by
  unfold parseG rground at h ⊢
  cases hx : rhead (.ok l) with
  | mk g s =>
    rw [hx] at h
    simp only at h ⊢
    cases s with
    | bad e =>
      have := errs_head l e (by rw [hx])
      rw [rsame_bad] at h
      simp only [rend] at h
      exact absurd h this
    | ok r =>
      obtain ⟨h1, h2⟩ := back_head l g r hb hx
      have e : l.take (l.length - leftN (.ok r)) = headG g.1 g.2.1 g.2.2 := by
        rw [h2]; simp [leftN]
      rw [e] at h ⊢
      cases hs : rsame (eight (fsum fstart (headG g.1 g.2.1 g.2.2))) (.ok r) with
      | bad e =>
        rw [hs] at h
        have := errs_same (eight (fsum fstart (headG g.1 g.2.1 g.2.2))) r e hs
        simp only [rend] at h
        exact absurd h this
      | ok q =>
        rw [hs] at h
        cases q with
        | cons y q => simp [rend] at h
        | nil =>
          simp only [rend]
          refine ⟨h1, ?_⟩
          have := rsame_back _ _ _ hs
          rw [List.append_nil] at this
          unfold encG
          rw [← this]; exact h2
end Go.Proofs.Ytdcilabbjejklaa
