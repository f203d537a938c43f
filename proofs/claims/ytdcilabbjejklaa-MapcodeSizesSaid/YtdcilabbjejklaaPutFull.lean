/- wire.Put onto a slice without room (the bytes of a constant). -/
import Derived.Test.YtdcilabbjejklaaEight
namespace Go.Proofs.Ytdcilabbjejklaa
set_option maxRecDepth 20000
open Go.RowKit

/-- 'append(s, x)' onto a slice that has no room: what comes is a new block. -/
theorem wpList_push_full {P : Program} (w W : World) {ops : Array Oper} {rest : List Oper} {o : Oper} {a : Act} {Q : Exit → Act → World → Prop} (hgd : o.guard = none) (s x : Operand) (t : TypeId)
    (ho : o.op = .call { callee := .builtin .append, args := #[s, x], argTypes := #[t, t] })
    (base : Nat) (e : TypeId) (i : TypeInfo) (z : Value) (bytes : Nat) (ht : P.underlying t = some (.slice e)) (hi : P.info? e = some i) (hz : i.zero = some z)
    (hsize : i.size = 1) (hby : i.bytes = bytes) (hzs : z.cells.size = 1)
    (b : Addr) (n B : Nat) (xs : List Value) (hs : a.eval s = .slice (some b) n n) (hr : Reads w B 1 (some b) n xs) (hB : B ≤ w.heap.size) (hn0 : 0 < n)
    (u : Value) (hW : W = w.alloc (.cells #[u] e)) (hx : a.eval x = .slice (some ⟨w.heap.size, 0, none⟩) 1 1)
    (h63 : n + 1 ≤ maxLen) (hbytes : (n + 1) * bytes ≤ 140737488355328) (hbase : base ≤ w.heap.size)
    (h : ∀ A' c' w', w'.ownsRow base e 1 (.slice A' (n + 1) c') (n + 1) (xs ++ [u]) → Below base w w' → wpList P ops Q rest (a.put o.dst (.slice A' (n + 1) c')) w') :
    wpList P ops Q (o :: rest) a W := by
  subst hW; subst hby
  have hl : xs.length = n := by simpa using hr.1
  refine wpList_plain hgd fun K hK => ?_
  have holds : ∀ j v, xs[j]? = some v → (w.alloc (.cells #[u] e)).cell? (b.add j) = some v := by
    intro j v hv
    obtain ⟨ad, had, hlt, hc⟩ := hr.2 hn0
    cases had
    have hb : b.block < w.heap.size := by omega
    have := ((Below.refl w.heap.size w).alloc (Nat.le_refl _) (.cells #[u] e)).cell (p := b.add j) (by first | (unfold Addr.add; split <;> exact hb) | (unfold Addr.add; exact hb) | (simp only [Addr.add]; exact hb))
    exact this.trans (hc j v hv)
  have hrun := run_append_grow (P := P) (w.alloc (.cells #[u] e)) t o.type e i z ht hi hz b n n xs (by rw [hl, hsize, Nat.mul_one]) holds ⟨w.heap.size, 0, none⟩ 1 1 [u] (by rw [hsize]; rfl)
    (by
      intro j v hv
      rw [Addr.add_lit, Nat.zero_add, World.cell?_alloc_at _ _ _ _ rfl]
      simpa using hv) (Nat.lt_succ_self _) (by unfold maxLen at h63; omega) (growslice_fits (Nat.lt_succ_self _) hbytes)
  have hge := grownCap_ge (w.alloc (.cells #[u] e)) (n + 1) n e
  have hcm := grownCap_le_maxLen (w.alloc (.cells #[u] e)) (n + 1) n e h63
  unfold Oper.wp execOp
  simp only [ho, resolve, invoke, builtin, Sem.run_bind, Sem.run_pure, Result.andThen_ok, List.map_toArray, List.map_cons, List.map_nil, hs, hx, hrun]
  refine hK _ _ (h _ _ _ ⟨by simp [hl], .inr ⟨_, _, _, rfl, ?_, heap_alloc_new _ _, hge, hcm, ?_, ?_⟩⟩ ?_)
  · simp; omega
  · simp only [Array.size_append, List.size_toArray, size_zeroCells, hzs, hl, List.length_singleton]
    omega
  · simp only [Array.toList_append, List.append_assoc]
    rw [← List.append_assoc, show (n + 1) * 1 = (xs ++ [u]).length by simp [hl]]
    exact List.take_left
  · exact (((Below.refl base w).alloc hbase _).drew).alloc (by simp; omega) _

/-- A row of bytes that the walk owns, or one without room that can be read. -/
def OwnG (base : Nat) (w : World) (A : Option Addr) (m c : Nat) (l : List Int) : Prop :=
  w.ownsRow base 5 1 (.slice A m c) m (nums .u8 l) ∨ (∃ b B, A = some b ∧ c = m ∧ 0 < m ∧ B ≤ w.heap.size ∧ Reads w B 1 (some b) m (nums .u8 l))

theorem wpList_pushG (w W : World) {ops : Array Oper} {rest : List Oper} {o : Oper} {a : Act} {Q : Exit → Act → World → Prop} (hgd : o.guard = none) (s x : Operand)
    (ho : o.op = .call { callee := .builtin .append, args := #[s, x], argTypes := #[37, 37] })
    (base : Nat) (A : Option Addr) (n c : Nat) (l : List Int) (hs : a.eval s = .slice A n c) (hown : OwnG base w A n c l)
    (u : Int) (hW : W = w.alloc (.cells #[.int .u8 u] 5)) (hx : a.eval x = .slice (some ⟨w.heap.size, 0, none⟩) 1 1)
    (h63 : n ≤ 16777300) (hbase : base ≤ w.heap.size)
    (h : ∀ A' c' w', w'.ownsRow base 5 1 (.slice A' (n + 1) c') (n + 1) (nums .u8 (l ++ [u])) → Below base w w' → wpList Try.prog ops Q rest (a.put o.dst (.slice A' (n + 1) c')) w') :
    wpList Try.prog ops Q (o :: rest) a W := by
  obtain ⟨i0, hi0, hz0, hz1, hz2⟩ := info_parts info_u8
  rcases hown with hown | ⟨b, B, rfl, rfl, hn0, hB, hr⟩
  · refine wpList_push w W hgd s x _ ho base 5 i0 _ 1 1 Try.underlying37 hi0 hz0 hz1 hz2 rfl Nat.one_pos _ n _ hs hown [.int .u8 u] hW hx rfl (one_int _ _) (by unfold maxLen; omega) (by omega) hbase fun A' c' w' h1 h2 => h A' c' w' (by rw [← nums_snoc]; exact h1) h2
  · refine wpList_push_full w W hgd s x _ ho base 5 i0 _ 1 Try.underlying37 hi0 hz0 hz1 hz2 rfl b _ B _ hs hr hB hn0 (.int .u8 u) hW hx (by unfold maxLen; omega) (by omega) hbase fun A' c' w' h1 h2 => h A' c' w' (by rw [← nums_snoc]; exact h1) h2

set_option maxHeartbeats 400000 in
set_option maxRecDepth 20000 in
theorem put_full (base : Nat) (A : Option Addr) (m c : Nat) (xs : List Int) (n : Nat) (w : World) (hown : OwnG base w A m c xs) (hml : xs.length = m) (hbase : base ≤ w.heap.size) (hm : m ≤ 16777216) (hn : (n : Int) ≤ 9223372036854775807) :
    Calls Try.prog 77 #[.slice A m c, .int .i64 (n : Int)] w (GivesBytes base w (xs ++ put n)) := by
  go_enter Try.func77, Try.ntmps77
  go_wp2
  go_loopw [0, 1] (fun v i wr => ∃ (k : Nat) (A' : Option Addr) (c' : Nat) (l : List Int), i = .int .i64 (k : Int) ∧ v = .slice A' l.length c' ∧ OwnG base wr A' l.length c' l ∧ Below base w wr ∧ l ++ put k = xs ++ put n ∧ (k : Int) ≤ 9223372036854775807) (fun _ i _ => (intOf i).toNat)
  case atStart =>
    subst hml
    exact ⟨n, A, c, xs, rfl, rfl, hown, Below.refl _ _, rfl, hn⟩
  case round =>
    obtain ⟨k, A', c', l, rfl, rfl, hown', hbl, HL, hk⟩ := hrel
    have hle := put_left HL hn
    have H := Lib.hid HL
    have HM := Lib.hid hml
    have hle' : l.length ≤ 16777300 := by omega
    clear HL hml hle hown
    by_cases hlt : 128 ≤ k
    · have HX := Lib.hid (u8_low k)
      go_wp2_with (at_builtin; refine wpList_pushG wr _ rfl _ _ rfl base _ _ _ _ rfl hown' (bits .or .u8 ((k : Int) % 256) 128) rfl rfl hle' (Nat.le_trans hbase hbl.size) ?_; intro A2 c2 w2 hown2 hb2)
      go_roundw
      case rel =>
        rw [HX.out] at hown2
        have hl2 := own_nums hown2
        exact ⟨k / 128, A2, c2, l ++ [((k % 128 + 128 : Nat) : Int)], by go_num, by rw [hl2], .inl (own_nums' hown2), hbl.trans hb2, by rw [← H.out, put_great hlt]; simp, by omega⟩
      case measure => simp [intOf]; omega
    · go_wp2_with (at_builtin; refine wpList_pushG wr _ rfl _ _ rfl base _ _ _ _ rfl hown' (k : Int) rfl rfl hle' (Nat.le_trans hbase hbl.size) ?_; intro A2 c2 w2 hown2 hb2)
      go_ret
      have hl2 := own_nums hown2
      have e : l ++ [(k : Int)] = xs ++ put n := by rw [← H.out, put_small (by omega)]
      exact ⟨A2, c2, by rw [← e, ← hl2]; rfl, by rw [← e]; exact own_nums' hown2, hbl.trans hb2⟩

theorem put_full_i (base : Nat) (A : Option Addr) (m c : Nat) (xs : List Int) (n : Int) (w : World) (hown : OwnG base w A m c xs) (hml : xs.length = m) (hbase : base ≤ w.heap.size) (hm : m ≤ 16777216) (h0 : 0 ≤ n) (hn : n ≤ 9223372036854775807) :
    Calls Try.prog 77 #[.slice A m c, .int .i64 n] w (GivesBytes base w (xs ++ putI n)) := by
  obtain ⟨k, rfl⟩ := Int.eq_ofNat_of_zero_le h0
  have := put_full base A m c xs k w hown hml hbase hm hn
  unfold putI
  rw [Int.toNat_natCast]
  exact this
end Go.Proofs.Ytdcilabbjejklaa
