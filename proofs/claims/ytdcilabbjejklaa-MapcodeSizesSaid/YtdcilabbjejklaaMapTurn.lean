/- Plain mathematics of maps as bytes: one byte behind the sides turned makes none. No program is named here. -/
import Derived.Test.YtdcilabbjejklaaMapBytes
namespace Go.Proofs.Ytdcilabbjejklaa
set_option maxRecDepth 20000

theorem fstart_range : 0 ≤ fstart ∧ fstart ≤ 18446744073709551615 := by unfold fstart; omega
theorem eight_inj {l m : List Int} (h : eight (fsum fstart l) = eight (fsum fstart m)) : fsum fstart l = fsum fstart m := by
  have a := fsum_range fstart l fstart_range
  have b := fsum_range fstart m fstart_range
  exact eightL_inj 8 _ _ a.1 (by rw [show (256 : Int) ^ 8 = 18446744073709551616 from rfl]; omega) b.1 (by rw [show (256 : Int) ^ 8 = 18446744073709551616 from rfl]; omega) h
theorem putI_side {n : Int} (h0 : 1 ≤ n) (h1 : n ≤ 128) : (n ≤ 127 ∧ putI n = [n]) ∨ (n = 128 ∧ putI n = [128, 1]) := by
  by_cases h : n ≤ 127
  · refine .inl ⟨h, ?_⟩
    unfold putI
    rw [put_small (by omega)]
    congr 1; omega
  · obtain rfl : n = 128 := by omega
    exact .inr ⟨rfl, by unfold putI; rw [put, if_neg (by decide), put_small (by decide)]; rfl⟩
theorem side_len {n : Int} (h0 : 1 ≤ n) (h1 : n ≤ 128) : ((putI n).length : Int) = if n ≤ 127 then 1 else 2 := by
  rcases putI_side h0 h1 with ⟨h, e⟩ | ⟨h, e⟩ <;> rw [e]
  · rw [if_pos h]; rfl
  · rw [if_neg (by omega)]; rfl
/-- Of two maps whose bytes are as many, and the first four the same, the sides are the same. -/
theorem sides_same {W H W' H' : Int} {ts ts' : List Int} (h : okG W H ts) (h' : okG W' H' ts') (hl : (encG W H ts).length = (encG W' H' ts').length) (h2 : (encG W H ts)[2]? = (encG W' H' ts')[2]?) : W = W' ∧ H = H' := by
  obtain ⟨⟨w0, w1⟩, ⟨a0, a1⟩, ht, _⟩ := h
  obtain ⟨⟨v0, v1⟩, ⟨b0, b1⟩, ht', _⟩ := h'
  have e : W = W' := by
    unfold encG headG at h2
    rcases putI_side w0 w1 with ⟨c, e1⟩ | ⟨c, e1⟩ <;> rcases putI_side v0 v1 with ⟨d, e2⟩ | ⟨d, e2⟩ <;> rw [e1, e2] at h2 <;> simp at h2 <;> omega
  subst e
  refine ⟨rfl, ?_⟩
  have k1 := side_len a0 a1
  have k2 := side_len b0 b1
  simp only [encG, headG, List.length_append, eight_len] at hl
  have hl' : ((putI H).length : Int) + W * H = (putI H').length + W * H' := by omega
  have m1 : H + 1 ≤ H' → W * H + W ≤ W * H' := fun hx => by have := Int.mul_le_mul_of_nonneg_left hx (show 0 ≤ W by omega); rw [Int.mul_add, Int.mul_one] at this; exact this
  have m2 : H' + 1 ≤ H → W * H' + W ≤ W * H := fun hx => by have := Int.mul_le_mul_of_nonneg_left hx (show 0 ≤ W by omega); rw [Int.mul_add, Int.mul_one] at this; exact this
  rcases Int.lt_trichotomy H H' with hx | hx | hx
  · have := m1 hx
    rw [k1, k2] at hl'
    split at hl' <;> split at hl' <;> omega
  · exact hx
  · have := m2 hx
    rw [k1, k2] at hl'
    split at hl' <;> split at hl' <;> omega
/-- One byte behind the sides turned: no map. -/
theorem parse_turnG {W H : Int} {ts : List Int} (h : okG W H ts) (hb : IsBytes ts) {k : Nat} (hk : 4 ≤ k) (hlt : k < (encG W H ts).length) {c : Int} (hc : 0 ≤ c ∧ c ≤ 255) (hne : c ≠ (encG W H ts).getD k 0) : (parseG ((encG W H ts).set k c)).2 ≠ 0 := by
  intro h0
  have hB := enc_bytes W H hb
  have hB2 : IsBytes ((encG W H ts).set k c) := fun x hx => by
    rcases List.mem_or_eq_of_mem_set hx with hx | rfl
    · exact hB x hx
    · exact hc
  obtain ⟨h', e⟩ := parse_backG hB2 h0
  generalize (parseG ((encG W H ts).set k c)).1.1 = W' at *
  generalize (parseG ((encG W H ts).set k c)).1.2.1 = H' at *
  generalize (parseG ((encG W H ts).set k c)).1.2.2 = ts' at *
  obtain ⟨rfl, rfl⟩ := sides_same h h' (by rw [← e, List.length_set]) (by rw [← e, List.getElem?_set_ne (by omega)])
  have hL : (headG W H ts').length = (headG W H ts).length := by
    have a := congrArg List.length e
    simp only [encG, List.length_set, List.length_append, eight_len] at a
    omega
  have hH := head_bytes W H hb
  unfold encG at e hne hlt
  by_cases hx : k < (headG W H ts).length
  · rw [List.set_append_left _ _ hx] at e
    obtain ⟨e1, e2⟩ := List.append_inj e (by rw [List.length_set, hL])
    have hg : (headG W H ts ++ eight (fsum fstart (headG W H ts))).getD k 0 = (headG W H ts).getD k 0 := by
      simp [List.getD, List.getElem?_append_left hx]
    rw [hg] at hne
    have := eight_inj e2
    rw [← e1] at this
    refine fsum_set fstart (headG W H ts) k c hx hc ?_ hne this.symm
    have hm : (headG W H ts).getD k 0 ∈ headG W H ts := by
      simp only [List.getD, List.getElem?_eq_getElem hx, Option.getD_some]; exact List.getElem_mem hx
    exact hH _ hm
  · rw [List.set_append_right _ _ (by omega)] at e
    obtain ⟨e1, e2⟩ := List.append_inj e (by rw [hL])
    rw [← e1] at e2
    have hj : k - (headG W H ts).length < (eight (fsum fstart (headG W H ts))).length := by
      rw [List.length_append] at hlt; omega
    have e3 := congrArg (fun l => l[k - (headG W H ts).length]?) e2
    simp only [List.getElem?_set_self hj] at e3
    refine hne ?_
    simp only [List.getD, List.getElem?_append_right (by omega : (headG W H ts).length ≤ k), ← e3, Option.getD_some]
theorem xor8m (x y : Int) (hx : 0 ≤ x ∧ x ≤ 255) (hy : 1 ≤ y ∧ y ≤ 255) : 0 ≤ bits .xor .u8 x y ∧ bits .xor .u8 x y ≤ 255 ∧ bits .xor .u8 x y ≠ x := by
  have h1 : bits .xor .u8 x y = ((BitVec.ofInt 8 x ^^^ BitVec.ofInt 8 y).toNat : Int) := by
    show IntKind.u8.wrap ((BitVec.ofInt 8 x ^^^ BitVec.ofInt 8 y).toNat : Int) = _
    generalize BitVec.ofInt 8 x ^^^ BitVec.ofInt 8 y = z
    have := z.isLt
    simp only [IntKind.wrap, IntKind.signed, IntKind.bits]
    simp
    omega
  rw [h1]
  have hlt := (BitVec.ofInt 8 x ^^^ BitVec.ofInt 8 y).isLt
  refine ⟨by omega, by omega, fun h => ?_⟩
  have hxn : ((BitVec.ofInt 8 x).toNat : Int) = x := by rw [BitVec.toNat_ofInt]; omega
  have h2 : BitVec.ofInt 8 x ^^^ BitVec.ofInt 8 y = BitVec.ofInt 8 x := BitVec.eq_of_toNat_eq (by omega)
  have h3 : BitVec.ofInt 8 y = 0#8 := by
    have h5 := congrArg (fun z => BitVec.ofInt 8 x ^^^ z) h2
    simpa [← BitVec.xor_assoc] using h5
  have h4 := congrArg BitVec.toNat h3
  rw [BitVec.toNat_ofInt] at h4
  simp at h4
  omega
end Go.Proofs.Ytdcilabbjejklaa
