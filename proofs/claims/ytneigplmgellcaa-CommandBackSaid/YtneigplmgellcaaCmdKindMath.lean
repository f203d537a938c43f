/- What the laws on one kind of commands want to know of a command that may be. -/
import Derived.Test.YtneigplmgellcaaCmdOpen
import Derived.Test.YtneigplmgellcaaRefCmd
import Derived.Test.YtneigplmgellcaaRefBytes
namespace Go.Proofs.Ytneigplmgellcaa
set_option maxRecDepth 20000
open Go.RowKit

theorem may_bounds {pl sq kd nn : Int} {us : List Int} {ti wd ht ax ay : Int} (h : mayC ⟨pl, sq, kd, nn, us, ti, wd, ht, ax, ay⟩ = true) :
    (1 ≤ kd ∧ kd ≤ 7) ∧ (0 ≤ nn ∧ nn ≤ 1099511627776) ∧ us.length ≤ 64 ∧ (∀ x ∈ us, 0 ≤ x ∧ x ≤ 9223372036854775807) ∧ (0 ≤ ti ∧ ti ≤ 16383) ∧ (0 ≤ wd ∧ wd ≤ 4) ∧ (0 ≤ ht ∧ ht ≤ 4) ∧ (-1099511627776 ≤ ax ∧ ax ≤ 1099511627776) ∧ (-1099511627776 ≤ ay ∧ ay ≤ 1099511627776) ∧ (1 ≤ pl ∧ pl ≤ 8) ∧ (0 ≤ sq ∧ sq ≤ 1099511627776) := by
  simp only [mayC, Bool.and_eq_true, inB_iff] at h
  obtain ⟨⟨hp, hq⟩, hk⟩ := h
  have hkd := kd_of_may hk
  simp only at hkd
  have hu : okUs us = true → us.length ≤ 64 ∧ ∀ x ∈ us, 0 ≤ x ∧ x ≤ 9223372036854775807 := fun h => by
    obtain ⟨_, h2, _, h4⟩ := okUs_iff.1 h
    exact ⟨h2, fun x hx => by have := h4 x hx; omega⟩
  refine ⟨hkd, ?_⟩
  rcases (show kd = 1 ∨ kd = 2 ∨ kd = 3 ∨ kd = 4 ∨ kd = 5 ∨ kd = 6 ∨ kd = 7 from by omega) with rfl | rfl | rfl | rfl | rfl | rfl | rfl
  all_goals simp only [mayK, Int.reduceEq, if_false, if_true, Bool.and_eq_true, inB_iff, decide_eq_true_eq, beq_iff_eq] at hk
  · obtain ⟨⟨⟨⟨⟨⟨⟨a1, a2⟩, a3, a4⟩, a5, a6⟩, rfl⟩, rfl⟩, rfl⟩, rfl⟩ := hk
    exact ⟨by omega, by simp, by simp, by omega, by omega, by omega, by omega, by omega, hp, hq⟩
  · obtain ⟨⟨⟨⟨⟨⟨a1, a3, a4⟩, rfl⟩, rfl⟩, rfl⟩, rfl⟩, rfl⟩ := hk
    exact ⟨by omega, (hu a1).1, (hu a1).2, by omega, by omega, by omega, by omega, by omega, hp, hq⟩
  · obtain ⟨⟨⟨⟨⟨⟨a1, rfl⟩, rfl⟩, rfl⟩, rfl⟩, rfl⟩, rfl⟩ := hk
    exact ⟨by omega, (hu a1).1, (hu a1).2, by omega, by omega, by omega, by omega, by omega, hp, hq⟩
  · obtain ⟨⟨⟨⟨⟨⟨⟨a1, a2⟩, a3, a4⟩, a5, a6⟩, rfl⟩, rfl⟩, rfl⟩, rfl⟩ := hk
    exact ⟨by omega, by simp, by simp, by omega, by omega, by omega, by omega, by omega, hp, hq⟩
  · obtain ⟨⟨⟨⟨⟨⟨⟨a1, a2⟩, rfl⟩, rfl⟩, rfl⟩, rfl⟩, rfl⟩, rfl⟩ := hk
    exact ⟨by omega, by simp, by simp, by omega, by omega, by omega, by omega, by omega, hp, hq⟩
  · obtain ⟨⟨⟨⟨⟨⟨a1, a3, a4⟩, rfl⟩, rfl⟩, rfl⟩, rfl⟩, rfl⟩ := hk
    exact ⟨by omega, (hu a1).1, (hu a1).2, by omega, by omega, by omega, by omega, by omega, hp, hq⟩
  · obtain ⟨⟨⟨⟨⟨⟨⟨a1, a2⟩, a3, a4⟩, rfl⟩, rfl⟩, rfl⟩, rfl⟩, rfl⟩ := hk
    exact ⟨by omega, by simp, by simp, by omega, by omega, by omega, by omega, by omega, hp, hq⟩
theorem bytes_putI (n : Int) : IsBytes (putI n) := put_bytes _
theorem bytes_encL : ∀ l : List Int, IsBytes (encL l)
  | [] => fun x hx => by cases hx
  | y :: l => bytes_app (bytes_putI y) (bytes_encL l)
theorem bytes_encU (l : List Int) : IsBytes (encU l) := bytes_app (put_bytes _) (bytes_encL l)
theorem bytes_nil : IsBytes [] := fun x hx => by cases hx
theorem bytes_encC (c : Cmd) : IsBytes (encC c) := by
  unfold encC encK
  refine bytes_app (bytes_putI _) (bytes_app (bytes_putI _) (bytes_app (bytes_putI _) ?_))
  repeat' split
  · exact bytes_app (bytes_putI _) (bytes_app (put_bytes _) (put_bytes _))
  · exact bytes_app (bytes_encU _) (bytes_putI _)
  · exact bytes_encU _
  · exact bytes_app (bytes_putI _) (bytes_app (bytes_putI _) (bytes_putI _))
  · exact bytes_putI _
  · exact bytes_app (bytes_encU _) (bytes_putI _)
  · exact bytes_app (bytes_putI _) (bytes_putI _)
  · exact bytes_nil
theorem len_putI {n : Int} (h : n ≤ 9223372036854775807) : (putI n).length ≤ 9 := put_nine (by omega)
/-- The first byte is the kind; there are not many. -/
theorem enc_facts {c : Cmd} (h : mayC c = true) : (∃ l, encC c = c.kd :: l) ∧ (encC c).length ≤ 3000 ∧ parseR (encC c) = (c, ((encC c).length : Int), 0) := by
  have hp := parse_enc h []
  rw [List.append_nil] at hp
  obtain ⟨pl, sq, kd, nn, us, ti, wd, ht, ax, ay⟩ := c
  obtain ⟨b0, b1, b2, b3, b4, b5, b6, b7, b8, b9, b10⟩ := may_bounds h
  refine ⟨?_, ?_, hp⟩
  · refine ⟨putI pl ++ (putI sq ++ encK ⟨pl, sq, kd, nn, us, ti, wd, ht, ax, ay⟩), ?_⟩
    have e : putI kd = [kd] := by unfold putI; rw [put_small (by omega), Int.toNat_of_nonneg (by omega)]
    unfold encC
    simp only [e]
    rfl
  · have hu := encU_len b3 (by omega)
    have l1 := len_putI (n := kd) (by omega)
    have l2 := len_putI (n := pl) (by omega)
    have l3 := len_putI (n := sq) (by omega)
    have l4 := len_putI (n := nn) (by omega)
    have l5 := len_putI (n := ti) (by omega)
    have l6 := len_putI (n := wd) (by omega)
    have l7 := len_putI (n := ht) (by omega)
    have l8 := zig_nine b7.1 b7.2
    have l9 := zig_nine b8.1 b8.2
    unfold encC encK
    simp only [List.length_append]
    repeat' split
    all_goals (try simp only [List.length_append, List.length_nil])
    all_goals omega
end Go.Proofs.Ytneigplmgellcaa
