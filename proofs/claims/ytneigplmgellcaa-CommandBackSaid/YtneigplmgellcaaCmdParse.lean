/- How a command is read from bytes. -/
import Derived.Test.YtneigplmgellcaaCmdRead
import Derived.Test.YtneigplmgellcaaQuietTail
namespace Go.Proofs.Ytneigplmgellcaa
set_option maxRecDepth 20000
open Go.RowKit

/-- A command is handed back, how many bytes it has, the error. -/
def GivesCmd (w : World) (r : Cmd × Int × Int) (e : Ending) (w' : World) : Prop :=
  ∃ (A : Option Addr) (m c : Nat), e = .returned (.tuple #[cmdV r.1 A m c, .int .i64 r.2.1, .int .i64 r.2.2]) ∧ w'.ownsRow w.heap.size 3 1 (.slice A m c) m (nums .i64 r.1.us) ∧ m ≤ 66 ∧ Below w.heap.size w w'

abbrev put10 (w : World) (b : Nat) (v0 v1 v2 v3 v4 v5 v6 v7 v8 v9 : Value) : World := (((((((((w.setCell ⟨b, 0, none⟩ v0).setCell ⟨b, 1, none⟩ v1).setCell ⟨b, 2, none⟩ v2).setCell ⟨b, 3, none⟩ v3).setCell ⟨b, 4, none⟩ v4).setCell ⟨b, 5, none⟩ v5).setCell ⟨b, 6, none⟩ v6).setCell ⟨b, 7, none⟩ v7).setCell ⟨b, 8, none⟩ v8).setCell ⟨b, 9, none⟩ v9
theorem put10_blk {w : World} {b : Nat} {t : TypeId} {u0 u1 u2 u3 u4 u5 u6 u7 u8 u9 : Value} (v0 v1 v2 v3 v4 v5 v6 v7 v8 v9 : Value) (h : Blk w b #[u0, u1, u2, u3, u4, u5, u6, u7, u8, u9] t) : Blk (put10 w b v0 v1 v2 v3 v4 v5 v6 v7 v8 v9) b #[v0, v1, v2, v3, v4, v5, v6, v7, v8, v9] t := by
  have h0 : Blk (w.setCell ⟨b, 0, none⟩ v0) b #[v0, u1, u2, u3, u4, u5, u6, u7, u8, u9] t := h.set 0 v0
  have h1 : Blk ((w.setCell ⟨b, 0, none⟩ v0).setCell ⟨b, 1, none⟩ v1) b #[v0, v1, u2, u3, u4, u5, u6, u7, u8, u9] t := h0.set 1 v1
  have h2 : Blk (((w.setCell ⟨b, 0, none⟩ v0).setCell ⟨b, 1, none⟩ v1).setCell ⟨b, 2, none⟩ v2) b #[v0, v1, v2, u3, u4, u5, u6, u7, u8, u9] t := h1.set 2 v2
  have h3 : Blk ((((w.setCell ⟨b, 0, none⟩ v0).setCell ⟨b, 1, none⟩ v1).setCell ⟨b, 2, none⟩ v2).setCell ⟨b, 3, none⟩ v3) b #[v0, v1, v2, v3, u4, u5, u6, u7, u8, u9] t := h2.set 3 v3
  have h4 : Blk (((((w.setCell ⟨b, 0, none⟩ v0).setCell ⟨b, 1, none⟩ v1).setCell ⟨b, 2, none⟩ v2).setCell ⟨b, 3, none⟩ v3).setCell ⟨b, 4, none⟩ v4) b #[v0, v1, v2, v3, v4, u5, u6, u7, u8, u9] t := h3.set 4 v4
  have h5 : Blk ((((((w.setCell ⟨b, 0, none⟩ v0).setCell ⟨b, 1, none⟩ v1).setCell ⟨b, 2, none⟩ v2).setCell ⟨b, 3, none⟩ v3).setCell ⟨b, 4, none⟩ v4).setCell ⟨b, 5, none⟩ v5) b #[v0, v1, v2, v3, v4, v5, u6, u7, u8, u9] t := h4.set 5 v5
  have h6 : Blk (((((((w.setCell ⟨b, 0, none⟩ v0).setCell ⟨b, 1, none⟩ v1).setCell ⟨b, 2, none⟩ v2).setCell ⟨b, 3, none⟩ v3).setCell ⟨b, 4, none⟩ v4).setCell ⟨b, 5, none⟩ v5).setCell ⟨b, 6, none⟩ v6) b #[v0, v1, v2, v3, v4, v5, v6, u7, u8, u9] t := h5.set 6 v6
  have h7 : Blk ((((((((w.setCell ⟨b, 0, none⟩ v0).setCell ⟨b, 1, none⟩ v1).setCell ⟨b, 2, none⟩ v2).setCell ⟨b, 3, none⟩ v3).setCell ⟨b, 4, none⟩ v4).setCell ⟨b, 5, none⟩ v5).setCell ⟨b, 6, none⟩ v6).setCell ⟨b, 7, none⟩ v7) b #[v0, v1, v2, v3, v4, v5, v6, v7, u8, u9] t := h6.set 7 v7
  have h8 : Blk (((((((((w.setCell ⟨b, 0, none⟩ v0).setCell ⟨b, 1, none⟩ v1).setCell ⟨b, 2, none⟩ v2).setCell ⟨b, 3, none⟩ v3).setCell ⟨b, 4, none⟩ v4).setCell ⟨b, 5, none⟩ v5).setCell ⟨b, 6, none⟩ v6).setCell ⟨b, 7, none⟩ v7).setCell ⟨b, 8, none⟩ v8) b #[v0, v1, v2, v3, v4, v5, v6, v7, v8, u9] t := h7.set 8 v8
  have h9 : Blk ((((((((((w.setCell ⟨b, 0, none⟩ v0).setCell ⟨b, 1, none⟩ v1).setCell ⟨b, 2, none⟩ v2).setCell ⟨b, 3, none⟩ v3).setCell ⟨b, 4, none⟩ v4).setCell ⟨b, 5, none⟩ v5).setCell ⟨b, 6, none⟩ v6).setCell ⟨b, 7, none⟩ v7).setCell ⟨b, 8, none⟩ v8).setCell ⟨b, 9, none⟩ v9) b #[v0, v1, v2, v3, v4, v5, v6, v7, v8, v9] t := h8.set 9 v9
  exact h9
theorem put10_other {w : World} {b : Nat} (v0 v1 v2 v3 v4 v5 v6 v7 v8 v9 : Value) {k : Nat} (hk : k ≠ b) : (put10 w b v0 v1 v2 v3 v4 v5 v6 v7 v8 v9).heap[k]? = w.heap[k]? := by
  unfold put10
  rw [Below.heap_setCell _ _ _ _ hk, Below.heap_setCell _ _ _ _ hk, Below.heap_setCell _ _ _ _ hk, Below.heap_setCell _ _ _ _ hk, Below.heap_setCell _ _ _ _ hk, Below.heap_setCell _ _ _ _ hk, Below.heap_setCell _ _ _ _ hk, Below.heap_setCell _ _ _ _ hk, Below.heap_setCell _ _ _ _ hk, Below.heap_setCell _ _ _ _ hk]
theorem put10_below {w : World} {b B : Nat} (v0 v1 v2 v3 v4 v5 v6 v7 v8 v9 : Value) (hb : B ≤ b) : Below B w (put10 w b v0 v1 v2 v3 v4 v5 v6 v7 v8 v9) :=
  (((((((((((Below.refl B w).setCell hb _).setCell hb _).setCell hb _).setCell hb _).setCell hb _).setCell hb _).setCell hb _).setCell hb _).setCell hb _).setCell hb _)
theorem own_blocks {w w' : World} {base : Nat} {e : TypeId} {size n : Nat} {v : Value} {xs : List Value} (h : w.ownsRow base e size v n xs) (hk : ∀ k, base ≤ k → w'.heap[k]? = w.heap[k]?) : w'.ownsRow base e size v n xs := by
  refine ⟨h.1, ?_⟩
  rcases h.2 with hn | ⟨g, cap, cur, hv, hg, hh, r⟩
  · exact .inl hn
  · exact .inr ⟨g, cap, cur, hv, hg, (hk g hg).trans hh, r⟩

set_option maxHeartbeats 6400000 in
set_option maxRecDepth 20000 in
theorem cmd_parse (A : Option Addr) (n c B : Nat) (l : List Int) (w : World) (hl : Left w B A n c l) (hB : B ≤ w.heap.size) :
    Calls Try.prog 24 #[.slice A n c] w (GivesCmd w (parseR l)) := by
  have hll := hl.len
  have hn4 := hl.2.2.2.2
  have hR0 : Rd ((w.alloc (.cells (cmdCs 0 0 0 0 none 0 0 0 0 0 0 0) 28)).alloc (.cells #[.slice A n c, .int .i64 0] 62)) w.heap.size (w.heap.size + 1) (.ok l) := by
    have hb := ((Below.refl w.heap.size w).alloc (Nat.le_refl _) (.cells (cmdCs 0 0 0 0 none 0 0 0 0 0 0 0) 28)).alloc (by simp) (.cells #[.slice A n c, .int .i64 0] 62)
    refine ⟨by omega, A, n, c, 0, ?_, by omega, rfl, (hl.1.more hB).below hb, hl.2⟩
    have := Blk.new (w.alloc (.cells (cmdCs 0 0 0 0 none 0 0 0 0 0 0 0) 28)) #[.slice A n c, .int .i64 0] 62
    simpa using this
  have hC0 : Blk ((w.alloc (.cells (cmdCs 0 0 0 0 none 0 0 0 0 0 0 0) 28)).alloc (.cells #[.slice A n c, .int .i64 0] 62)) w.heap.size (cmdCs 0 0 0 0 none 0 0 0 0 0 0 0) 28 := (Blk.new w _ _).alloc _
  have hb0 : Below w.heap.size w ((w.alloc (.cells (cmdCs 0 0 0 0 none 0 0 0 0 0 0 0) 28)).alloc (.cells #[.slice A n c, .int .i64 0] 62)) := ((Below.refl w.heap.size w).alloc (Nat.le_refl _) _).alloc (by simp) _
  have hs0 : ((w.alloc (.cells (cmdCs 0 0 0 0 none 0 0 0 0 0 0 0) 28)).alloc (.cells #[.slice A n c, .int .i64 0] 62)).heap.size = w.heap.size + 2 := by simp
  go_enter Try.func24, Try.ntmps24
  go_wp2_with fail
  generalize (w.alloc (.cells (cmdCs 0 0 0 0 none 0 0 0 0 0 0 0) 28)).alloc (.cells #[.slice A n c, .int .i64 0] 62) = w0 at *
  generalize hCC : w.heap.size = C at *
  refine Calls.mono (cmd_read C (C + 1) (.ok l) w0 hR0) ?_
  rintro e w1 ⟨A1, m1, c1, x, rfl, hown, hm66, hx, hR1, ho1⟩
  obtain ⟨pl, sq, kd, nn, us, ti, wd, ht, ax, ay⟩ := x
  simp only [cmdV]
  have hC1 := hC0.only ho1 (by omega)
  have hb1 := below_only hb0 ho1 (by omega) (by omega)
  rw [hs0] at hown
  clear hR0 hC0 hb0 ho1 hs0 hl
  have c0 := hC1.cell (i := 0) rfl
  have f0 := hC1.free 0
  have cs1 := hC1.cell (i := 1) rfl
  have f1 := hC1.free 1
  have c2 := hC1.cell (i := 2) rfl
  have f2 := hC1.free 2
  have c3 := hC1.cell (i := 3) rfl
  have f3 := hC1.free 3
  have c4 := hC1.cell (i := 4) rfl
  have f4 := hC1.free 4
  have c5 := hC1.cell (i := 5) rfl
  have f5 := hC1.free 5
  have c6 := hC1.cell (i := 6) rfl
  have f6 := hC1.free 6
  have c7 := hC1.cell (i := 7) rfl
  have f7 := hC1.free 7
  have c8 := hC1.cell (i := 8) rfl
  have f8 := hC1.free 8
  have c9 := hC1.cell (i := 9) rfl
  have f9 := hC1.free 9
  have HP : Hid (∀ r, (readC (.ok l)).2 = .ok r → parseR l = (⟨pl, sq, kd, nn, us, ti, wd, ht, ax, ay⟩, (n : Int) - r.length, 0)) := by
    intro r hr
    unfold parseR
    rw [hr, hx r hr]
    simp [hll]
  have HE : Hid (∀ e, (readC (.ok l)).2 = .bad e → parseR l = (zeroC, 0, e)) := by
    intro e hr
    unfold parseR
    rw [hr]
  clear hx hll
  generalize (readC (.ok l)).2 = s1 at *
  obtain ⟨_, A2, n2, cp2, x2, hB2, ⟨hx0, hx1⟩, hs2⟩ := id hR1
  have d0 := hB2.cell (i := 0) rfl
  have d1 := hB2.cell (i := 1) rfl
  cases s1 with
  | bad e =>
    obtain ⟨rfl, he, hn2⟩ := hs2
    have d : (x2 != 0) = true := by simpa using he
    have HP := Lib.hid (HE.out _ rfl)
    clear HE
    go_wp2_with fail
    have hC2 : Blk (put10 w1 C (.int .i64 pl) (.int .i64 sq) (.int .i64 kd) (.int .i64 nn) (.slice A1 m1 c1) (.int .i64 ti) (.int .i64 wd) (.int .i64 ht) (.int .i64 ax) (.int .i64 ay)) C (cmdCs pl sq kd nn A1 m1 c1 ti wd ht ax ay) 28 := put10_blk _ _ _ _ _ _ _ _ _ _ hC1
    have hB3 := hB2.keep (put10_other (.int .i64 pl) (.int .i64 sq) (.int .i64 kd) (.int .i64 nn) (.slice A1 m1 c1) (.int .i64 ti) (.int .i64 wd) (.int .i64 ht) (.int .i64 ax) (.int .i64 ay) (show C + 1 ≠ C by omega))
    have hown2 := own_blocks hown (fun k hk => put10_other (.int .i64 pl) (.int .i64 sq) (.int .i64 kd) (.int .i64 nn) (.slice A1 m1 c1) (.int .i64 ti) (.int .i64 wd) (.int .i64 ht) (.int .i64 ax) (.int .i64 ay) (show k ≠ C by omega))
    have hb2 := hb1.trans (put10_below (.int .i64 pl) (.int .i64 sq) (.int .i64 kd) (.int .i64 nn) (.slice A1 m1 c1) (.int .i64 ti) (.int .i64 wd) (.int .i64 ht) (.int .i64 ax) (.int .i64 ay) (Nat.le_refl C))
    clear hC1 hB2 hown hb1 hR1 c0 f0 cs1 f1 c2 f2 c3 f3 c4 f4 c5 f5 c6 f6 c7 f7 c8 f8 c9 f9 d0 d1
    simp only [put10] at hC2 hB3 hown2 hb2
    generalize ((((((((((w1).setCell ⟨C, 0, none⟩ (.int .i64 pl)).setCell ⟨C, 1, none⟩ (.int .i64 sq)).setCell ⟨C, 2, none⟩ (.int .i64 kd)).setCell ⟨C, 3, none⟩ (.int .i64 nn)).setCell ⟨C, 4, none⟩ (.slice A1 m1 c1)).setCell ⟨C, 5, none⟩ (.int .i64 ti)).setCell ⟨C, 6, none⟩ (.int .i64 wd)).setCell ⟨C, 7, none⟩ (.int .i64 ht)).setCell ⟨C, 8, none⟩ (.int .i64 ax)).setCell ⟨C, 9, none⟩ (.int .i64 ay) = w2 at *
    have k0 := hC2.cell (i := 0) rfl
    have f0 := hC2.free 0
    have k1 := hC2.cell (i := 1) rfl
    have f1 := hC2.free 1
    have k2 := hC2.cell (i := 2) rfl
    have f2 := hC2.free 2
    have k3 := hC2.cell (i := 3) rfl
    have f3 := hC2.free 3
    have k4 := hC2.cell (i := 4) rfl
    have f4 := hC2.free 4
    have k5 := hC2.cell (i := 5) rfl
    have f5 := hC2.free 5
    have k6 := hC2.cell (i := 6) rfl
    have f6 := hC2.free 6
    have k7 := hC2.cell (i := 7) rfl
    have f7 := hC2.free 7
    have k8 := hC2.cell (i := 8) rfl
    have f8 := hC2.free 8
    have k9 := hC2.cell (i := 9) rfl
    have f9 := hC2.free 9
    have d0 := hB3.cell (i := 0) rfl
    have d1 := hB3.cell (i := 1) rfl
    go_region
    have hC3 : Blk (put10 w2 C (.int .i64 0) (.int .i64 0) (.int .i64 0) (.int .i64 0) (.slice none 0 0) (.int .i64 0) (.int .i64 0) (.int .i64 0) (.int .i64 0) (.int .i64 0)).drew C #[.int .i64 0, .int .i64 0, .int .i64 0, .int .i64 0, .slice none 0 0, .int .i64 0, .int .i64 0, .int .i64 0, .int .i64 0, .int .i64 0] 28 := (put10_blk _ _ _ _ _ _ _ _ _ _ hC2).drew
    have hown3 := (own_blocks (w' := (put10 w2 C (.int .i64 0) (.int .i64 0) (.int .i64 0) (.int .i64 0) (.slice none 0 0) (.int .i64 0) (.int .i64 0) (.int .i64 0) (.int .i64 0) (.int .i64 0))) hown2 (fun k hk => put10_other (.int .i64 0) (.int .i64 0) (.int .i64 0) (.int .i64 0) (.slice none 0 0) (.int .i64 0) (.int .i64 0) (.int .i64 0) (.int .i64 0) (.int .i64 0) (show k ≠ C by omega))).drew
    have hb3 := (hb2.trans (put10_below (.int .i64 0) (.int .i64 0) (.int .i64 0) (.int .i64 0) (.slice none 0 0) (.int .i64 0) (.int .i64 0) (.int .i64 0) (.int .i64 0) (.int .i64 0) (Nat.le_refl C))).drew
    simp only [put10] at hC3 hown3 hb3
    clear hC2 hB3 hown2 hb2 k0 f0 k1 f1 k2 f2 k3 f3 k4 f4 k5 f5 k6 f6 k7 f7 k8 f8 k9 f9 d0 d1
    generalize (((((((((((w2).setCell ⟨C, 0, none⟩ (.int .i64 0)).setCell ⟨C, 1, none⟩ (.int .i64 0)).setCell ⟨C, 2, none⟩ (.int .i64 0)).setCell ⟨C, 3, none⟩ (.int .i64 0)).setCell ⟨C, 4, none⟩ (.slice none 0 0)).setCell ⟨C, 5, none⟩ (.int .i64 0)).setCell ⟨C, 6, none⟩ (.int .i64 0)).setCell ⟨C, 7, none⟩ (.int .i64 0)).setCell ⟨C, 8, none⟩ (.int .i64 0)).setCell ⟨C, 9, none⟩ (.int .i64 0)).drew = w3 at *
    have q0 : w3.cell? ⟨C, 0, none⟩ = some (.int .i64 0) := hC3.cell rfl
    have q1 : w3.cell? ⟨C, 1, none⟩ = some (.int .i64 0) := hC3.cell rfl
    have q2 : w3.cell? ⟨C, 2, none⟩ = some (.int .i64 0) := hC3.cell rfl
    have q3 : w3.cell? ⟨C, 3, none⟩ = some (.int .i64 0) := hC3.cell rfl
    have q4 : w3.cell? ⟨C, 4, none⟩ = some (.slice none 0 0) := hC3.cell rfl
    have q5 : w3.cell? ⟨C, 5, none⟩ = some (.int .i64 0) := hC3.cell rfl
    have q6 : w3.cell? ⟨C, 6, none⟩ = some (.int .i64 0) := hC3.cell rfl
    have q7 : w3.cell? ⟨C, 7, none⟩ = some (.int .i64 0) := hC3.cell rfl
    have q8 : w3.cell? ⟨C, 8, none⟩ = some (.int .i64 0) := hC3.cell rfl
    have q9 : w3.cell? ⟨C, 9, none⟩ = some (.int .i64 0) := hC3.cell rfl
    go_wp2_with fail
    refine bodyPost_ret (v := .tuple #[cmdV zeroC none 0 0, .int .i64 (0), .int .i64 (x2)]) (by simp [results, Try.results24, go_sem, cmdV, zeroC, q0, q1, q2, q3, q4, q5, q6, q7, q8, q9]) rfl ?_
    rw [HP.out]
    exact ⟨none, 0, 0, rfl, World.ownsRow_nil _ _ _ _, by omega, by rw [hCC]; exact hb3⟩
  | ok r =>
    obtain ⟨rfl, hl2⟩ := hs2
    have hn2 := hl2.2.2.2.2
    have hln := hl2.len
    have HP := Lib.hid (HP.out _ rfl)
    rw [hln] at HP
    clear HE hl2
    go_wp2_with fail
    have hC2 : Blk (put10 w1 C (.int .i64 pl) (.int .i64 sq) (.int .i64 kd) (.int .i64 nn) (.slice A1 m1 c1) (.int .i64 ti) (.int .i64 wd) (.int .i64 ht) (.int .i64 ax) (.int .i64 ay)) C (cmdCs pl sq kd nn A1 m1 c1 ti wd ht ax ay) 28 := put10_blk _ _ _ _ _ _ _ _ _ _ hC1
    have hB3 := hB2.keep (put10_other (.int .i64 pl) (.int .i64 sq) (.int .i64 kd) (.int .i64 nn) (.slice A1 m1 c1) (.int .i64 ti) (.int .i64 wd) (.int .i64 ht) (.int .i64 ax) (.int .i64 ay) (show C + 1 ≠ C by omega))
    have hown2 := own_blocks hown (fun k hk => put10_other (.int .i64 pl) (.int .i64 sq) (.int .i64 kd) (.int .i64 nn) (.slice A1 m1 c1) (.int .i64 ti) (.int .i64 wd) (.int .i64 ht) (.int .i64 ax) (.int .i64 ay) (show k ≠ C by omega))
    have hb2 := hb1.trans (put10_below (.int .i64 pl) (.int .i64 sq) (.int .i64 kd) (.int .i64 nn) (.slice A1 m1 c1) (.int .i64 ti) (.int .i64 wd) (.int .i64 ht) (.int .i64 ax) (.int .i64 ay) (Nat.le_refl C))
    clear hC1 hB2 hown hb1 hR1 c0 f0 cs1 f1 c2 f2 c3 f3 c4 f4 c5 f5 c6 f6 c7 f7 c8 f8 c9 f9 d0 d1
    simp only [put10] at hC2 hB3 hown2 hb2
    generalize ((((((((((w1).setCell ⟨C, 0, none⟩ (.int .i64 pl)).setCell ⟨C, 1, none⟩ (.int .i64 sq)).setCell ⟨C, 2, none⟩ (.int .i64 kd)).setCell ⟨C, 3, none⟩ (.int .i64 nn)).setCell ⟨C, 4, none⟩ (.slice A1 m1 c1)).setCell ⟨C, 5, none⟩ (.int .i64 ti)).setCell ⟨C, 6, none⟩ (.int .i64 wd)).setCell ⟨C, 7, none⟩ (.int .i64 ht)).setCell ⟨C, 8, none⟩ (.int .i64 ax)).setCell ⟨C, 9, none⟩ (.int .i64 ay) = w2 at *
    have k0 := hC2.cell (i := 0) rfl
    have f0 := hC2.free 0
    have k1 := hC2.cell (i := 1) rfl
    have f1 := hC2.free 1
    have k2 := hC2.cell (i := 2) rfl
    have f2 := hC2.free 2
    have k3 := hC2.cell (i := 3) rfl
    have f3 := hC2.free 3
    have k4 := hC2.cell (i := 4) rfl
    have f4 := hC2.free 4
    have k5 := hC2.cell (i := 5) rfl
    have f5 := hC2.free 5
    have k6 := hC2.cell (i := 6) rfl
    have f6 := hC2.free 6
    have k7 := hC2.cell (i := 7) rfl
    have f7 := hC2.free 7
    have k8 := hC2.cell (i := 8) rfl
    have f8 := hC2.free 8
    have k9 := hC2.cell (i := 9) rfl
    have f9 := hC2.free 9
    have d0 := hB3.cell (i := 0) rfl
    have d1 := hB3.cell (i := 1) rfl
    go_region
    have hC3 : Blk (put10 w2 C (.int .i64 pl) (.int .i64 sq) (.int .i64 kd) (.int .i64 nn) (.slice A1 m1 c1) (.int .i64 ti) (.int .i64 wd) (.int .i64 ht) (.int .i64 ax) (.int .i64 ay)).drew C #[.int .i64 pl, .int .i64 sq, .int .i64 kd, .int .i64 nn, .slice A1 m1 c1, .int .i64 ti, .int .i64 wd, .int .i64 ht, .int .i64 ax, .int .i64 ay] 28 := (put10_blk _ _ _ _ _ _ _ _ _ _ hC2).drew
    have hown3 := (own_blocks (w' := (put10 w2 C (.int .i64 pl) (.int .i64 sq) (.int .i64 kd) (.int .i64 nn) (.slice A1 m1 c1) (.int .i64 ti) (.int .i64 wd) (.int .i64 ht) (.int .i64 ax) (.int .i64 ay))) hown2 (fun k hk => put10_other (.int .i64 pl) (.int .i64 sq) (.int .i64 kd) (.int .i64 nn) (.slice A1 m1 c1) (.int .i64 ti) (.int .i64 wd) (.int .i64 ht) (.int .i64 ax) (.int .i64 ay) (show k ≠ C by omega))).drew
    have hb3 := (hb2.trans (put10_below (.int .i64 pl) (.int .i64 sq) (.int .i64 kd) (.int .i64 nn) (.slice A1 m1 c1) (.int .i64 ti) (.int .i64 wd) (.int .i64 ht) (.int .i64 ax) (.int .i64 ay) (Nat.le_refl C))).drew
    simp only [put10] at hC3 hown3 hb3
    clear hC2 hB3 hown2 hb2 k0 f0 k1 f1 k2 f2 k3 f3 k4 f4 k5 f5 k6 f6 k7 f7 k8 f8 k9 f9 d0 d1
    generalize (((((((((((w2).setCell ⟨C, 0, none⟩ (.int .i64 pl)).setCell ⟨C, 1, none⟩ (.int .i64 sq)).setCell ⟨C, 2, none⟩ (.int .i64 kd)).setCell ⟨C, 3, none⟩ (.int .i64 nn)).setCell ⟨C, 4, none⟩ (.slice A1 m1 c1)).setCell ⟨C, 5, none⟩ (.int .i64 ti)).setCell ⟨C, 6, none⟩ (.int .i64 wd)).setCell ⟨C, 7, none⟩ (.int .i64 ht)).setCell ⟨C, 8, none⟩ (.int .i64 ax)).setCell ⟨C, 9, none⟩ (.int .i64 ay)).drew = w3 at *
    have q0 : w3.cell? ⟨C, 0, none⟩ = some (.int .i64 pl) := hC3.cell rfl
    have q1 : w3.cell? ⟨C, 1, none⟩ = some (.int .i64 sq) := hC3.cell rfl
    have q2 : w3.cell? ⟨C, 2, none⟩ = some (.int .i64 kd) := hC3.cell rfl
    have q3 : w3.cell? ⟨C, 3, none⟩ = some (.int .i64 nn) := hC3.cell rfl
    have q4 : w3.cell? ⟨C, 4, none⟩ = some (.slice A1 m1 c1) := hC3.cell rfl
    have q5 : w3.cell? ⟨C, 5, none⟩ = some (.int .i64 ti) := hC3.cell rfl
    have q6 : w3.cell? ⟨C, 6, none⟩ = some (.int .i64 wd) := hC3.cell rfl
    have q7 : w3.cell? ⟨C, 7, none⟩ = some (.int .i64 ht) := hC3.cell rfl
    have q8 : w3.cell? ⟨C, 8, none⟩ = some (.int .i64 ax) := hC3.cell rfl
    have q9 : w3.cell? ⟨C, 9, none⟩ = some (.int .i64 ay) := hC3.cell rfl
    go_wp2_with fail
    refine bodyPost_ret (v := .tuple #[cmdV ⟨pl, sq, kd, nn, us, ti, wd, ht, ax, ay⟩ A1 m1 c1, .int .i64 ((n : Int) - n2), .int .i64 (0)]) (by simp [results, Try.results24, go_sem, cmdV, q0, q1, q2, q3, q4, q5, q6, q7, q8, q9]) rfl ?_
    rw [HP.out]
    exact ⟨A1, m1, c1, rfl, own_mono hown3 (by omega), by omega, by rw [hCC]; exact hb3⟩
end Go.Proofs.Ytneigplmgellcaa
