/- How the page reads a command's units. -/
import Derived.Test.YtneigplmgellcaaRefReader
namespace Go.Proofs.Ytneigplmgellcaa
set_option maxRecDepth 20000
open Go.RowKit

def RefUs (base R n0 : Nat) (w : World) (r : List Int × St) (e : Ending) (w' : World) : Prop :=
  ∃ (A : Option Addr) (m c : Nat) (us : List Int), e = .returned (.slice A m c) ∧ w'.ownsRow w.heap.size 3 1 (.slice A m c) m (nums .i64 us) ∧ m ≤ 66 ∧ (∀ l, r.2 = .ok l → us = r.1) ∧ Rr w' base R n0 r.2 ∧ Only R w w'

set_option maxHeartbeats 1600000 in
set_option maxRecDepth 20000 in
theorem ref_units (base R n0 : Nat) (s : St) (w : World) (h : Rr w base R n0 s) :
    Calls Try.prog 43 #[.pointer (some ⟨R, 0, none⟩)] w (RefUs base R n0 w (rus s)) := by
  obtain ⟨i0, hi0, hz0, hz1, hz2⟩ := info_parts info_int
  have hRl := h.lt
  have C0 := Lib.hid (ref_rnum base R n0 1 64 s w h)
  have HS : Hid (∀ n, (∀ l, (rnum 1 64 s).2 = .ok l → n = (rnum 1 64 s).1) → UsLink (rus s) [] n.toNat 0 (rnum 1 64 s).2 ∧ ((∃ l, (rnum 1 64 s).2 = .ok l) → 1 ≤ n ∧ n ≤ 64)) := by
    intro n hn
    unfold rus bnd
    cases hs : (rnum 1 64 s).2 with
    | bad e => exact ⟨stays_usL _ _ _, fun ⟨l, hl⟩ => (by cases hl)⟩
    | ok l =>
      have hn' := hn l hs
      subst hn'
      refine ⟨⟨rfl, fun m hm => rfl, by omega, by omega⟩, fun _ => ?_⟩
      cases s with
      | bad e => cases hs
      | ok m =>
        unfold rnum at hs ⊢
        simp only at hs ⊢
        split at hs
        · cases hs
        · rw [if_neg ‹_›]
          split at hs
          · rw [if_pos ‹_›]; assumption
          · cases hs
  generalize rnum 1 64 s = r0 at *
  generalize rus s = rr at *
  obtain ⟨_, s0⟩ := r0
  simp only at HS
  clear h
  go_enter Try.func43, Try.ntmps43
  go_wp2_with fail
  refine Calls.mono C0.out ?_
  rintro e w1 ⟨N, rfl, ⟨hN0, hN1⟩, hNv, hR1, ho1⟩
  have HS := HS.out N hNv
  clear hNv C0
  go_wp2_with fail
  go_loopw [4, 5, 6, 7] (fun lo v ii xx wr => ∃ (A : Option Addr) (m c : Nat) (us : List Int) (last L : Int) (s1 : St), v = .slice A m c ∧ lo = .int .i64 L ∧ ii = .int .i64 (m : Int) ∧ wr.ownsRow w.heap.size 3 1 (.slice A m c) m (nums .i64 us) ∧ Rr wr base R n0 s1 ∧ Only R w wr ∧ m ≤ 65 ∧ UsLink rr us (N - m).toNat last s1 ∧ ((∃ l, s1 = .ok l) → L = last + 1 ∧ m ≤ N ∧ N ≤ 64)) (fun _ _ ii _ _ => (N - intOf ii).toNat)
  case atStart =>
    exact ⟨none, 0, 0, [], 0, 1, s0, rfl, rfl, rfl, World.ownsRow_nil _ _ _ _, hR1, ho1, by omega, by simpa using HS.1, fun hl => by have := HS.2 hl; omega⟩
  case round =>
    obtain ⟨A, m, c, us, last, L, s1, rfl, rfl, rfl, hown, hRd, ho, hm, HL, hK⟩ := hrel
    obtain ⟨hbR, A0, c0, a0, x0, f0, hB, hl0, hA0, han, ⟨hx0, hx1⟩, hs⟩ := id hRd
    have cc := hB.cell (i := 2) rfl
    clear HS hR1 ho1 hl0 hA0
    cases s1 with
    | bad e =>
      obtain ⟨rfl, he⟩ := hs
      have d : (x0 == 0) = false := by simpa using he
      have hrr : rr.2 = .bad x0 := HL
      have HR := Lib.hid hrr
      have HRd := Lib.hid hRd
      have HO := Lib.hid ho
      clear hB HL hrr hRd ho hK
      by_cases hK0 : (m : Int) < N
      · go_wp2_with fail
        go_ret
        rw [show RefUs base R n0 w rr = RefUs base R n0 w (rr.1, .bad x0) by rw [← HR.out]]
        exact ⟨A, m, c, us, rfl, hown, by omega, fun l hl => (by cases hl), HRd.out, HO.out⟩
      · go_wp2_with fail
        go_ret
        rw [show RefUs base R n0 w rr = RefUs base R n0 w (rr.1, .bad x0) by rw [← HR.out]]
        exact ⟨A, m, c, us, rfl, hown, by omega, fun l hl => (by cases hl), HRd.out, HO.out⟩
    | ok l =>
      obtain ⟨rfl, hl⟩ := hs
      obtain ⟨rfl, hK0, hKm⟩ := hK ⟨l, rfl⟩
      clear hl hK
      by_cases hKp : (m : Int) < N
      · obtain ⟨k, hk⟩ : ∃ k : Nat, N - m = (k : Int) + 1 := ⟨(N - m - 1).toNat, by omega⟩
        have hlb : 0 ≤ last ∧ last ≤ 1099511627776 := by
          have := HL
          exact this.2.2
        obtain ⟨hl0, hl1⟩ := hlb
        have HL' : UsLink rr us (k + 1) last (.ok l) := by rw [show (N - (m : Int)).toNat = k + 1 by omega] at HL; exact HL
        have HN := Lib.hid (fun x hx => usLink_next (x := x) HL' hx)
        have C := Lib.hid (ref_rnum base R n0 (last + 1) 1099511627776 (.ok l) wr hRd)
        generalize rnum (last + 1) 1099511627776 (.ok l) = r2 at *
        obtain ⟨_, s2⟩ := r2
        clear HL HL' hB hRd
        go_wp2_with fail
        refine Calls.mono C.out ?_
        rintro e w2 ⟨x, rfl, ⟨hxa, hxb⟩, hxv, hR2, ho2⟩
        have HN := Lib.hid (HN.out x hxv)
        have hown := own_only hown ho2 hRl
        have ho := ho.trans ho2
        clear hxv C ho2 cc
        have HX : Hid ((∃ l, s2 = .ok l) → 0 ≤ x ∧ x ≤ 1099511627776) := by
          rintro ⟨l2, rfl⟩
          exact HN.out.2.2
        go_wp2_with (at_builtin; refine wpList_push w2 _ rfl _ _ _ rfl w.heap.size 3 i0 _ 1 8 Try.underlying24 hi0 hz0 hz1 hz2 rfl (by omega) _ _ _ rfl hown [.int .i64 x] rfl rfl rfl (one_int _ _) (by unfold maxLen; omega) (by omega) ho.size ?_; intro A2 c2 w3 hown2 hb2)
        rw [nums_snoc] at hown2
        go_roundw
        case rel =>
          refine ⟨A2, m + 1, c2, us ++ [x], x, _, s2, rfl, rfl, by go_num, hown2, hR2.below (hb2.mono (by omega)), ho.below_from hb2 (Nat.le_refl _), by omega, ?_, fun hl => ?_⟩
          · rw [show (N - ((m + 1 : Nat) : Int)).toNat = k by omega]; exact HN.out
          · have := HX.out hl
            refine ⟨?_, by omega, by omega⟩
            unfold wrap64; omega
        case measure => simp [intOf]; omega
      · obtain rfl : (m : Int) = N := by omega
        have HL : UsLink rr us 0 last (.ok l) := by rw [show ((m : Int) - m).toNat = 0 by omega] at HL; exact HL
        have HR := Lib.hid (usLink_done HL)
        have HRd := Lib.hid hRd
        have HO := Lib.hid ho
        clear hB HL hRd ho
        go_wp2_with fail
        go_ret
        obtain ⟨r1, r2⟩ := rr
        obtain ⟨h1, h2⟩ := HR.out
        simp only at h1 h2
        subst h1; subst h2
        exact ⟨A, m, c, us, rfl, hown, by omega, fun _ _ => rfl, HRd.out, HO.out⟩
end Go.Proofs.Ytneigplmgellcaa
