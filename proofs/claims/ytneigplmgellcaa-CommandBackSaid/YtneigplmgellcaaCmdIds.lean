/- How a command's units are read. -/
import Derived.Test.YtneigplmgellcaaReader
import Derived.Test.YtneigplmgellcaaNumbers
namespace Go.Proofs.Ytneigplmgellcaa
set_option maxRecDepth 20000
open Go.RowKit

/-- Numbers of the call's own, and the reader's next state. -/
def ReadsUs (base R : Nat) (w : World) (r : List Int × St) (e : Ending) (w' : World) : Prop :=
  ∃ (A : Option Addr) (m c : Nat) (us : List Int), e = .returned (.slice A m c) ∧ w'.ownsRow w.heap.size 3 1 (.slice A m c) m (nums .i64 us) ∧ m ≤ 66 ∧ (∀ l, r.2 = .ok l → us = r.1) ∧ Rd w' base R r.2 ∧ Only R w w'

/-- Where the loop stands: what was read, what is still to be read. -/
def UsLink (r : List Int × St) (us : List Int) (k : Nat) (last : Int) (s : St) : Prop := match s with
  | .bad e => r.2 = .bad e
  | .ok l => (rusL k (last + 1) (.ok l)).2 = r.2 ∧ (∀ m, r.2 = .ok m → us ++ (rusL k (last + 1) (.ok l)).1 = r.1) ∧ 0 ≤ last ∧ last ≤ 1099511627776
theorem usLink_done {r : List Int × St} {us : List Int} {last : Int} {l : List Int} (h : UsLink r us 0 last (.ok l)) : r.2 = .ok l ∧ us = r.1 := by
  have h1 : St.ok l = r.2 := h.1
  refine ⟨h1.symm, ?_⟩
  have := h.2.1 l h1.symm
  simpa [rusL, give] using this
theorem usLink_next {r : List Int × St} {us : List Int} {k : Nat} {last x : Int} {l : List Int} (h : UsLink r us (k + 1) last (.ok l)) (hx : ∀ m, (rnum (last + 1) 1099511627776 (.ok l)).2 = .ok m → x = (rnum (last + 1) 1099511627776 (.ok l)).1) :
    UsLink r (us ++ [x]) k x (rnum (last + 1) 1099511627776 (.ok l)).2 := by
  obtain ⟨h1, h2, h3, h4⟩ := h
  rw [rusL_succ] at h1 h2
  unfold bnd at h1 h2
  cases hs : (rnum (last + 1) 1099511627776 (.ok l)).2 with
  | bad e => rw [hs] at h1; exact h1.symm.trans (stays_usL _ _ _)
  | ok m =>
    have hx' := hx m hs
    rw [hs, ← hx'] at h1 h2
    refine ⟨h1, fun q hq => ?_, ?_⟩
    · have := h2 q hq
      simp only [give] at this
      rw [List.append_assoc]; exact this
    · unfold rnum at hs hx'
      simp only at hs hx'
      split at hs
      · cases hs
      · rw [if_neg ‹_›] at hx'
        split at hs
        · rw [if_pos ‹_›] at hx'
          simp only at hx'
          omega
        · cases hs

set_option maxHeartbeats 1600000 in
set_option maxRecDepth 20000 in
theorem read_ids (base R : Nat) (s : St) (w : World) (h : Rd w base R s) :
    Calls Try.prog 54 #[.pointer (some ⟨R, 0, none⟩)] w (ReadsUs base R w (rus s)) := by
  obtain ⟨i0, hi0, hz0, hz1, hz2⟩ := info_parts info_int
  have hRl := h.lt
  have C0 := Lib.hid (reader_num base R 1 64 s w h)
  have HS : Hid (∀ n, (∀ l, (rnum 1 64 s).2 = .ok l → n = (rnum 1 64 s).1) → UsLink (rus s) [] n.toNat 0 (rnum 1 64 s).2 ∧ ((∃ l, (rnum 1 64 s).2 = .ok l) → 1 ≤ n ∧ n ≤ 64)) := by
    intro n hn
    unfold rus bnd
    cases hs : (rnum 1 64 s).2 with
    | bad e => exact ⟨stays_usL _ _ _, fun ⟨l, hl⟩ => (by cases hl)⟩
    | ok l =>
      have hn' := hn l hs
      subst hn'
      refine ⟨⟨rfl, fun m hm => rfl, by omega, by omega⟩, fun _ => ?_⟩
      cases s with
      | bad e => cases hs
      | ok m =>
        unfold rnum at hs ⊢
        simp only at hs ⊢
        split at hs
        · cases hs
        · rw [if_neg ‹_›]
          split at hs
          · rw [if_pos ‹_›]; assumption
          · cases hs
  generalize rnum 1 64 s = r0 at *
  generalize rus s = rr at *
  obtain ⟨_, s0⟩ := r0
  simp only at HS
  clear h
  go_enter Try.func54, Try.ntmps54
  go_wp2_with fail
  refine Calls.mono C0.out ?_
  rintro e w1 ⟨N, rfl, ⟨hN0, hN1⟩, hNv, hR1, ho1⟩
  have HS := HS.out N hNv
  clear hNv C0
  go_wp2_with fail
  go_loopw [2, 3, 4] (fun v la nn wr => ∃ (A : Option Addr) (m c : Nat) (us : List Int) (last K : Int) (s1 : St), v = .slice A m c ∧ la = .int .i64 last ∧ nn = .int .i64 K ∧ wr.ownsRow w.heap.size 3 1 (.slice A m c) m (nums .i64 us) ∧ Rd wr base R s1 ∧ Only R w wr ∧ m ≤ 65 ∧ UsLink rr us K.toNat last s1 ∧ ((∃ l, s1 = .ok l) → 0 ≤ K ∧ K + m ≤ 64)) (fun _ _ nn _ => (intOf nn).toNat)
  case atStart =>
    exact ⟨none, 0, 0, [], 0, N, s0, rfl, rfl, rfl, World.ownsRow_nil _ _ _ _, hR1, ho1, by omega, HS.1, fun hl => by have := HS.2 hl; omega⟩
  case round =>
    obtain ⟨A, m, c, us, last, K, s1, rfl, rfl, rfl, hown, hRd, ho, hm, HL, hK⟩ := hrel
    obtain ⟨hbR, A0, n0, c0, x0, hB, ⟨hx0, hx1⟩, hs⟩ := id hRd
    have cc := hB.cell (i := 1) rfl
    clear HS hR1 ho1
    cases s1 with
    | bad e =>
      obtain ⟨rfl, he, _⟩ := hs
      have d : (x0 == 0) = false := by simpa using he
      have hrr : rr.2 = .bad x0 := HL
      have HR := Lib.hid hrr
      have HRd := Lib.hid hRd
      have HO := Lib.hid ho
      clear hB HL hrr hRd ho hK
      by_cases hK0 : 0 < K
      · go_wp2_with fail
        go_ret
        rw [show ReadsUs base R w rr = ReadsUs base R w (rr.1, .bad x0) by rw [← HR.out]]
        exact ⟨A, m, c, us, rfl, hown, by omega, fun l hl => (by cases hl), HRd.out, HO.out⟩
      · go_wp2_with fail
        go_ret
        rw [show ReadsUs base R w rr = ReadsUs base R w (rr.1, .bad x0) by rw [← HR.out]]
        exact ⟨A, m, c, us, rfl, hown, by omega, fun l hl => (by cases hl), HRd.out, HO.out⟩
    | ok l =>
      obtain ⟨rfl, hl⟩ := hs
      obtain ⟨hK0, hKm⟩ := hK ⟨l, rfl⟩
      clear hl hK
      by_cases hKp : 0 < K
      · obtain ⟨k, rfl⟩ : ∃ k : Nat, K = (k : Int) + 1 := ⟨(K - 1).toNat, by omega⟩
        have hlb : 0 ≤ last ∧ last ≤ 1099511627776 := HL.2.2
        obtain ⟨hl0, hl1⟩ := hlb
        have HL' : UsLink rr us (k + 1) last (.ok l) := by rw [show ((k : Int) + 1).toNat = k + 1 by omega] at HL; exact HL
        have HN := Lib.hid (fun x hx => usLink_next (x := x) HL' hx)
        have C := Lib.hid (reader_num base R (last + 1) 1099511627776 (.ok l) wr hRd)
        generalize rnum (last + 1) 1099511627776 (.ok l) = r2 at *
        obtain ⟨_, s2⟩ := r2
        clear HL HL' hB hRd
        go_wp2_with fail
        refine Calls.mono C.out ?_
        rintro e w2 ⟨x, rfl, ⟨hxa, hxb⟩, hxv, hR2, ho2⟩
        have HN := Lib.hid (HN.out x hxv)
        have hown := own_only hown ho2 hRl
        have ho := ho.trans ho2
        clear hxv C ho2 cc
        go_wp2_with (at_builtin; refine wpList_push w2 _ rfl _ _ _ rfl w.heap.size 3 i0 _ 1 8 Try.underlying24 hi0 hz0 hz1 hz2 rfl (by omega) _ _ _ rfl hown [.int .i64 x] rfl rfl rfl (one_int _ _) (by unfold maxLen; omega) (by omega) ho.size ?_; intro A2 c2 w3 hown2 hb2)
        rw [nums_snoc] at hown2
        go_roundw
        case rel => exact ⟨A2, m + 1, c2, us ++ [x], x, k, s2, rfl, rfl, by go_num, hown2, hR2.below (hb2.mono (by omega)), ho.below_from hb2 (Nat.le_refl _), by omega, HN.out, fun _ => by omega⟩
        case measure => simp [intOf]
      · obtain rfl : K = 0 := by omega
        have HR := Lib.hid (usLink_done HL)
        have HRd := Lib.hid hRd
        have HO := Lib.hid ho
        clear hB HL hRd ho
        go_wp2_with fail
        go_ret
        obtain ⟨r1, r2⟩ := rr
        obtain ⟨h1, h2⟩ := HR.out
        simp only at h1 h2
        subst h1; subst h2
        exact ⟨A, m, c, us, rfl, hown, by omega, fun _ _ => rfl, HRd.out, HO.out⟩
end Go.Proofs.Ytneigplmgellcaa
