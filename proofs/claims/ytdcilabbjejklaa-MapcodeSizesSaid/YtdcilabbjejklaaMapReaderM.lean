/- The wire's reader: bytes, bytes that must be these, the end. -/
import Derived.Test.YtdcilabbjejklaaReaderM
namespace Go.Proofs.Ytdcilabbjejklaa
set_option maxRecDepth 20000
open Go.RowKit
variable {M : Nat}

def rbyte : St → Int × St
  | .bad e => (0, .bad e)
  | .ok [] => (0, .bad 11)
  | .ok (c :: l) => (c, .ok l)
def rmust (b : Bool) : St → St
  | .bad e => .bad e
  | .ok l => if b then .ok l else .bad 1
def rsame : List Int → St → St
  | [], s => s
  | c :: cs, s => rsame cs (rmust ((rbyte s).1 == c) (rbyte s).2)
def rend : St → St
  | .bad e => .bad e
  | .ok [] => .ok []
  | .ok (_ :: _) => .bad 1

def ReadsByte (M base R : Nat) (w : World) (r : Int × St) (e : Ending) (w' : World) : Prop :=
  ∃ n : Int, e = .returned (.int .u8 n) ∧ (0 ≤ n ∧ n ≤ 255) ∧ (∀ l, r.2 = .ok l → n = r.1) ∧ Rd M w' base R r.2 ∧ Only R w w'
def ReadsOn (M base R : Nat) (w : World) (s : St) (e : Ending) (w' : World) : Prop := e = .returned (.tuple #[]) ∧ Rd M w' base R s ∧ Only R w w'

set_option maxHeartbeats 800000 in
theorem reader_byte (base R : Nat) (s : St) (w : World) (h : Rd M w base R s) :
    Calls Try.prog 67 #[.pointer (some ⟨R, 0, none⟩)] w (ReadsByte M base R w (rbyte s)) := by
  obtain ⟨hbR, A, n, c, x, hB, ⟨hx0, hx1⟩, hs⟩ := h
  have c0 := hB.cell (i := 0) rfl
  have c1 := hB.cell (i := 1) rfl
  have f0 := hB.free 0
  have f1 := hB.free 1
  cases s with
  | bad e =>
    obtain ⟨rfl, he, hn⟩ := hs
    have d : (x != 0) = true := by simpa using he
    have d2 : (x == 0) = false := by simpa using he
    have HB := Lib.hid hB
    clear hB
    go_enter Try.func67, Try.ntmps67
    go_wp2_with fail
    go_ret
    exact ⟨0, rfl, by omega, fun l hl => (by cases hl), ⟨hbR, A, n, c, x, HB.out, ⟨hx0, hx1⟩, rfl, he, hn⟩, Only.refl _ _⟩
  | ok l =>
    obtain ⟨rfl, hl⟩ := hs
    have hll := hl.len
    have hn4 := hl.2.2.2.2
    cases l with
    | nil =>
      obtain rfl : n = 0 := by simpa using hll.symm
      have HB := Lib.hid hB
      clear hB hl
      go_enter Try.func67, Try.ntmps67
      go_wp2_with fail
      go_ret
      exact ⟨0, rfl, by omega, fun l hl => (by cases hl), ⟨hbR, A, 0, c, 11, HB.out.set 1 _, by omega, rfl, by omega, by omega⟩, (Only.refl _ _).setCell _ _⟩
    | cons y l =>
      have hn1 : n = l.length + 1 := by simpa using hll.symm
      obtain ⟨_, b, o, rfl, hbb, hc⟩ := hl.1.num (i := 0) (by omega)
      rw [Nat.add_zero] at hc
      simp only [List.getD_cons_zero] at hc
      have hy := hl.2.1 y (List.mem_cons_self ..)
      have hlt := left_tail hl (q := 1) (by omega)
      rw [List.drop_one, List.tail_cons] at hlt
      have hnc := hl.2.2.1
      have hcm := hl.2.2.2.1
      have hRl := hB.lt
      obtain ⟨q, rfl⟩ : ∃ q, n = q + 1 := ⟨l.length, hn1⟩
      rw [Nat.add_sub_cancel] at hlt
      have d : (((q + 1 : Nat) : Int) == 0) = false := by rw [beq_eq_false_iff_ne]; omega
      have d2 : ((q : Int) + 1 == 0) = false := by rw [beq_eq_false_iff_ne]; omega
      clear hll hn1 hl
      by_cases hc1 : c = 1
      · subst hc1
        obtain rfl : q = 0 := by omega
        rw [if_pos rfl] at hlt
        have ho : Only R w (w.setCell ⟨R, 0, none⟩ (.slice (some ⟨b, o, none⟩) 0 0)) := (Only.refl _ _).setCell _ _
        have HF : Hid (ReadsByte M base R w (rbyte (.ok (y :: l))) (.returned (.int .u8 y)) (w.setCell ⟨R, 0, none⟩ (.slice (some ⟨b, o, none⟩) 0 0))) := ⟨y, rfl, hy, fun _ _ => rfl, ⟨hbR, some ⟨b, o, none⟩, 0, 0, 0, hB.set 0 _, by omega, rfl, hlt.only ho hbR (by omega)⟩, ho⟩
        clear hB hlt ho
        go_enter Try.func67, Try.ntmps67
        go_wp2_with fail
        go_ret
        exact HF.out
      · rw [if_neg hc1] at hlt
        have ho : Only R w (w.setCell ⟨R, 0, none⟩ (.slice (some ⟨b, o + 1, none⟩) q (c - 1))) := (Only.refl _ _).setCell _ _
        have HF : Hid (ReadsByte M base R w (rbyte (.ok (y :: l))) (.returned (.int .u8 y)) (w.setCell ⟨R, 0, none⟩ (.slice (some ⟨b, o + 1, none⟩) q (c - 1)))) := ⟨y, rfl, hy, fun _ _ => rfl, ⟨hbR, some ⟨b, o + 1, none⟩, q, c - 1, 0, hB.set 0 _, by omega, rfl, hlt.only ho hbR (by omega)⟩, ho⟩
        clear hB hlt ho
        go_enter Try.func67, Try.ntmps67
        go_wp2_with fail
        go_ret
        exact HF.out

theorem reader_must (base R : Nat) (v : Bool) (s : St) (w : World) (h : Rd M w base R s) :
    Calls Try.prog 68 #[.pointer (some ⟨R, 0, none⟩), .bool v] w (ReadsOn M base R w (rmust v s)) := by
  obtain ⟨hbR, A, n, c, x, hB, ⟨hx0, hx1⟩, hs⟩ := id h
  have c1 := hB.cell (i := 1) rfl
  have f1 := hB.free 1
  cases s with
  | bad e =>
    obtain ⟨rfl, he, hn⟩ := hs
    exact (must_later R x v w c1 (by simpa using he)).mono fun e w' ⟨h1, h2⟩ => ⟨h1, by rw [← h2]; exact h, by rw [← h2]; exact Only.refl _ _⟩
  | ok l =>
    obtain ⟨rfl, hl⟩ := hs
    cases v with
    | true => exact (must_ok R w).mono fun e w' ⟨h1, h2⟩ => ⟨h1, by rw [← h2]; exact h, by rw [← h2]; exact Only.refl _ _⟩
    | false => exact (must_first R w c1 f1).mono fun e w' ⟨h1, h2⟩ => ⟨h1, by rw [← h2]; exact ⟨hbR, A, n, c, 1, hB.set 1 _, by omega, rfl, by omega, hl.2.2.2.2⟩, by rw [← h2]; exact (Only.refl _ _).setCell _ _⟩

/-- 'rmust' asks the number that was read only where nothing was wrong. -/
theorem rmust_eq {n m c : Int} {s : St} (h : ∀ l, s = .ok l → n = m) : rmust (n == c) s = rmust (m == c) s := by
  cases s with
  | bad e => rfl
  | ok l => rw [h l rfl]

set_option maxHeartbeats 800000 in
set_option maxRecDepth 20000 in
theorem reader_same (base R : Nat) (A2 : Option Addr) (m c2 B2 : Nat) (cs : List Int) (s : St) (w : World) (h : Rd M w base R s) (hr : Reads w B2 1 A2 m (nums .u8 cs)) (hd : ∀ k, A2 = some k → k.block ≠ R) (hm : m ≤ 1000000) (hB2 : B2 ≤ w.heap.size) :
    Calls Try.prog 65 #[.pointer (some ⟨R, 0, none⟩), .slice A2 m c2] w (ReadsOn M base R w (rsame cs s)) := by
  have hll : cs.length = m := by have := hr.1; simpa [nums] using this
  have HLL := Lib.hid hll
  clear hll
  go_enter Try.func65, Try.ntmps65
  go_wp2_with fail
  go_loopw [5, 6, 9] (fun _ _ i wr => ∃ (k : Nat) (s1 : St), k ≤ m ∧ i = .int .i64 (k : Int) ∧ Rd M wr base R s1 ∧ Only R w wr ∧ rsame (cs.drop k) s1 = rsame cs s) (fun _ _ i _ => m - (intOf i).toNat)
  case atStart => exact ⟨0, s, Nat.zero_le _, rfl, h, Only.refl _ _, rfl⟩
  case round =>
    obtain ⟨k, s1, hk, rfl, hR, ho, hS⟩ := hrel
    have HS := Lib.hid hS
    clear hS h
    by_cases hlt : k < m
    · obtain ⟨_, b, o, rfl, hb, hc⟩ := hr.num hlt
      have hbR := hd _ rfl
      have hcr : wr.cell? ⟨b, o + k, none⟩ = some (.int .u8 (cs.getD k 0)) := (World.cell?_of_block (ho.block b (by omega) hbR)).trans hc
      have hD := drop_cons (l := cs) (k := k) (by rw [HLL.out]; exact hlt)
      have HS2 : Hid (rsame (cs.drop (k + 1)) (rmust ((rbyte s1).1 == cs.getD k 0) (rbyte s1).2) = rsame cs s) := by
        show _ = _
        rw [← HS.out, hD]; rfl
      have C := Lib.hid (reader_byte base R s1 wr hR)
      generalize rbyte s1 = rb at *
      clear hD HS
      generalize cs.getD k 0 = y at *
      clear hc
      go_wp2_with fail
      refine Calls.mono C.out ?_
      rintro e w1 ⟨x, rfl, ⟨hx0, hx1⟩, hxv, hR1, ho1⟩
      have C2 := Lib.hid (reader_must base R (x == y) rb.2 w1 hR1)
      have HX := Lib.hid (rmust_eq (c := y) hxv)
      have ho2 := ho.trans ho1
      clear hxv C ho1 hR1 hR ho hcr
      go_wp2_with fail
      refine Calls.mono C2.out ?_
      rintro e w2 ⟨rfl, hR2, ho3⟩
      rw [HX.out] at hR2
      have HR2 := Lib.hid hR2
      have HO := Lib.hid (ho2.trans ho3)
      clear hR2 ho2 ho3
      go_wp2_with fail
      go_roundw
      case rel => exact ⟨k + 1, _, by omega, by go_num, HR2.out, HO.out, HS2.out⟩
      case measure => simp [intOf]; omega
    · obtain rfl : k = m := by omega
      have HT : Hid (s1 = rsame cs s) := by
        show _ = _
        rw [← HS.out, List.drop_of_length_le (by rw [HLL.out]; exact Nat.le_refl _)]; rfl
      have HR := Lib.hid hR
      have HO := Lib.hid ho
      clear hR ho
      go_wp2_with fail
      go_end0
      exact ⟨rfl, by rw [← HT.out]; exact HR.out, HO.out⟩

theorem reader_end (base R : Nat) (s : St) (w : World) (h : Rd M w base R s) :
    Calls Try.prog 72 #[.pointer (some ⟨R, 0, none⟩)] w (ReadsOn M base R w (rend s)) := by
  obtain ⟨hbR, A, n, c, x, hB, ⟨hx0, hx1⟩, hs⟩ := id h
  have c0 := hB.cell (i := 0) rfl
  have C := Lib.hid (fun v => reader_must base R v s w h)
  have HE : Hid (rmust ((n : Int) == 0) s = rend s) := by
    show _ = _
    cases s with
    | bad e => rfl
    | ok l =>
      have hl := hs.2.len
      cases l with
      | nil => obtain rfl : n = 0 := by simpa using hl.symm
               rfl
      | cons y l =>
        have : ((n : Int) == 0) = false := by rw [beq_eq_false_iff_ne]; simp at hl; omega
        rw [this]; rfl
  clear hs hB h
  go_enter Try.func72, Try.ntmps72
  go_wp2_with fail
  refine Calls.mono (C.out _) ?_
  rintro e w1 ⟨rfl, hR1, ho1⟩
  rw [HE.out] at hR1
  have HR := Lib.hid hR1
  have HO := Lib.hid ho1
  clear hR1 ho1
  go_wp2_with fail
  go_end0
  exact ⟨rfl, HR.out, HO.out⟩
end Go.Proofs.Ytdcilabbjejklaa
