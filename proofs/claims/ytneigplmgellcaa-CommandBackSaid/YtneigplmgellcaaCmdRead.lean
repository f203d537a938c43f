/- How a command is read. -/
import Derived.Test.YtneigplmgellcaaCmdIds
namespace Go.Proofs.Ytneigplmgellcaa
set_option maxRecDepth 20000
open Go.RowKit

/-- A command as a value; its cells. -/
def cmdV (c : Cmd) (A : Option Addr) (m cc : Nat) : Value := .agg #[.int .i64 c.pl, .int .i64 c.sq, .int .i64 c.kd, .int .i64 c.nn, .slice A m cc, .int .i64 c.ti, .int .i64 c.wd, .int .i64 c.ht, .int .i64 c.ax, .int .i64 c.ay]
abbrev cmdCs (pl sq kd nn : Int) (A : Option Addr) (m cc : Nat) (ti wd ht ax ay : Int) : Array Value := #[.int .i64 pl, .int .i64 sq, .int .i64 kd, .int .i64 nn, .slice A m cc, .int .i64 ti, .int .i64 wd, .int .i64 ht, .int .i64 ax, .int .i64 ay]

theorem Only.new {R : Nat} {w w1 : World} (h : Only R w w1) {a : Addr} (ha : w.heap.size ≤ a.block) (u : Value) : Only R w (w1.setCell a u) :=
  ⟨h.os, h.tape, h.output, by simpa using h.size, fun j hj hr => (Below.heap_setCell _ _ _ _ (by omega)).trans (h.block j hj hr)⟩
theorem own_low {w : World} {base : Nat} {e : TypeId} {size n : Nat} {v : Value} {xs : List Value} (h : w.ownsRow base e size v n xs) {a : Addr} (ha : a.block < base) (u : Value) : (w.setCell a u).ownsRow base e size v n xs := by
  refine ⟨h.1, ?_⟩
  rcases h.2 with hn | ⟨g, cap, cur, hv, hg, hh, r⟩
  · exact .inl hn
  · exact .inr ⟨g, cap, cur, hv, hg, by rw [Below.heap_setCell _ _ _ _ (by omega)]; exact hh, r⟩

/-- The reader at R, a command's box at C, made since w0. -/
structure RdC (w0 w : World) (base R C : Nat) (s : St) (cs : Array Value) : Prop where
  rd : Rd w base R s
  blk : Blk w C cs 28
  only : Only R w0 w
  lt : R < C
  sz : w0.heap.size ≤ C
theorem RdC.call {w0 w w' : World} {base R C : Nat} {s s' : St} {cs : Array Value} (h : RdC w0 w base R C s cs) (hR : Rd w' base R s') (ho : Only R w w') : RdC w0 w' base R C s' cs :=
  ⟨hR, h.blk.only ho (by have := h.lt; omega), h.only.trans ho, h.lt, h.sz⟩
theorem RdC.put {w0 w : World} {base R C : Nat} {s : St} {cs : Array Value} (h : RdC w0 w base R C s cs) (i : Nat) (u : Value) : RdC w0 (w.setCell ⟨C, i, none⟩ u) base R C s (cs.setIfInBounds i u) :=
  ⟨h.rd.other (by exact h.lt) u, h.blk.set i u, h.only.new (by exact h.sz) u, h.lt, h.sz⟩

def ReadsCmd (base R : Nat) (w : World) (r : Cmd × St) (e : Ending) (w' : World) : Prop :=
  ∃ (A : Option Addr) (m c : Nat) (x : Cmd), e = .returned (cmdV x A m c) ∧ w'.ownsRow w.heap.size 3 1 (.slice A m c) m (nums .i64 x.us) ∧ m ≤ 66 ∧ (∀ l, r.2 = .ok l → x = r.1) ∧ Rd w' base R r.2 ∧ Only R w w'
theorem readsCmd_same {base R : Nat} {w w' : World} {k p q k0 p0 q0 : Int} {s : St} {e : Ending} (hq : ∀ l, s = .ok l → k = k0 ∧ p = p0 ∧ q = q0) (h : ReadsCmd base R w (rrest k p q s) e w') : ReadsCmd base R w (rrest k0 p0 q0 s) e w' := by
  cases s with
  | ok l => obtain ⟨rfl, rfl, rfl⟩ := hq l rfl; exact h
  | bad x =>
    obtain ⟨A, m, c, y, h1, h2, h3, _, h5, h6⟩ := h
    rw [stays_rest k p q x] at h5
    refine ⟨A, m, c, y, h1, h2, h3, fun l hl => ?_, ?_, h6⟩
    · rw [stays_rest] at hl; cases hl
    · rw [stays_rest]; exact h5
theorem ok_num {lo hi : Int} {s : St} {l : List Int} (h : (rnum lo hi s).2 = .ok l) : ∃ m, s = .ok m := by
  cases s with
  | ok m => exact ⟨m, rfl⟩
  | bad e => cases h
theorem ok_int {lo hi : Int} {s : St} {l : List Int} (h : (rint lo hi s).2 = .ok l) : ∃ m, s = .ok m := by
  cases s with
  | ok m => exact ⟨m, rfl⟩
  | bad e => cases h
theorem ok_us {s : St} {l : List Int} (h : (rus s).2 = .ok l) : ∃ m, s = .ok m := by
  cases s with
  | ok m => exact ⟨m, rfl⟩
  | bad e => rw [stays_us e] at h; cases h
/-- The command's box is written as it stands. -/
theorem setCells_back {w : World} {b : Nat} {v0 v1 v2 v3 v4 v5 v6 v7 v8 v9 : Value} {t : TypeId} (h : Blk w b #[v0, v1, v2, v3, v4, v5, v6, v7, v8, v9] t) :
    ((((((((((w.setCell ⟨b, 0, none⟩ v0).setCell ⟨b, 1, none⟩ v1).setCell ⟨b, 2, none⟩ v2).setCell ⟨b, 3, none⟩ v3).setCell ⟨b, 4, none⟩ v4).setCell ⟨b, 5, none⟩ v5).setCell ⟨b, 6, none⟩ v6).setCell ⟨b, 7, none⟩ v7).setCell ⟨b, 8, none⟩ v8).setCell ⟨b, 9, none⟩ v9) = w := by
  have q0 : w.cell? ⟨b, 0, none⟩ = some v0 := h.cell rfl
  have q1 : w.cell? ⟨b, 1, none⟩ = some v1 := h.cell rfl
  have q2 : w.cell? ⟨b, 2, none⟩ = some v2 := h.cell rfl
  have q3 : w.cell? ⟨b, 3, none⟩ = some v3 := h.cell rfl
  have q4 : w.cell? ⟨b, 4, none⟩ = some v4 := h.cell rfl
  have q5 : w.cell? ⟨b, 5, none⟩ = some v5 := h.cell rfl
  have q6 : w.cell? ⟨b, 6, none⟩ = some v6 := h.cell rfl
  have q7 : w.cell? ⟨b, 7, none⟩ = some v7 := h.cell rfl
  have q8 : w.cell? ⟨b, 8, none⟩ = some v8 := h.cell rfl
  have q9 : w.cell? ⟨b, 9, none⟩ = some v9 := h.cell rfl
  rw [setCell_back q0, setCell_back q1, setCell_back q2, setCell_back q3, setCell_back q4, setCell_back q5, setCell_back q6, setCell_back q7, setCell_back q8, setCell_back q9]


theorem rrest_no {k p q : Int} {s : St} (h : ¬ (k = 1 ∨ k = 2 ∨ k = 3 ∨ k = 4 ∨ k = 5 ∨ k = 6 ∨ k = 7)) : rrest k p q s = (⟨p, q, k, 0, [], 0, 0, 0, 0, 0⟩, s) := by
  unfold rrest
  rw [if_neg (by omega), if_neg (by omega), if_neg (by omega), if_neg (by omega), if_neg (by omega), if_neg (by omega), if_neg (by omega)]
  rfl

set_option maxHeartbeats 6400000 in
set_option maxRecDepth 20000 in
theorem cmd_read (base R : Nat) (s : St) (w : World) (h : Rd w base R s) :
    Calls Try.prog 40 #[.pointer (some ⟨R, 0, none⟩)] w (ReadsCmd base R w (readC s)) := by
  have hRl := h.lt
  have M0 : RdC w (w.alloc (.cells (cmdCs 0 0 0 0 none 0 0 0 0 0 0 0) 28)) base R w.heap.size s (cmdCs 0 0 0 0 none 0 0 0 0 0 0 0) := ⟨h.alloc _, Blk.new w _ _, (Only.refl _ _).alloc _, h.lt, Nat.le_refl _⟩
  go_enter Try.func40, Try.ntmps40
  go_wp2_with fail
  generalize hCC : w.heap.size = C at *
  generalize w.alloc (.cells (cmdCs 0 0 0 0 none 0 0 0 0 0 0 0) 28) = v0 at *
  have M := M0
  clear M0 h
  refine Calls.mono (reader_num base R (1) (7) _ _ M.rd) ?_
  rintro e u1 ⟨k, rfl, ⟨b0k, b1k⟩, hk, hR, ho⟩
  replace M := M.call hR ho
  have Hk := Lib.hid hk
  have ci := M.blk.cell (i := 2) rfl
  have fi := M.blk.free 2
  clear hR ho hk
  go_wp2_with fail
  replace M : RdC w (u1.setCell ⟨C, 2, none⟩ (.int .i64 k)) base R C _ (cmdCs 0 0 k 0 none 0 0 0 0 0 0 0) := M.put 2 (.int .i64 k)
  generalize u1.setCell ⟨C, 2, none⟩ (.int .i64 k) = v1 at *
  clear ci fi
  refine Calls.mono (reader_num base R (1) (8) _ _ M.rd) ?_
  rintro e u2 ⟨p, rfl, ⟨b0p, b1p⟩, hp, hR, ho⟩
  replace M := M.call hR ho
  have Hp := Lib.hid hp
  have ci := M.blk.cell (i := 0) rfl
  have fi := M.blk.free 0
  clear hR ho hp
  go_wp2_with fail
  replace M : RdC w (u2.setCell ⟨C, 0, none⟩ (.int .i64 p)) base R C _ (cmdCs p 0 k 0 none 0 0 0 0 0 0 0) := M.put 0 (.int .i64 p)
  generalize u2.setCell ⟨C, 0, none⟩ (.int .i64 p) = v2 at *
  clear ci fi
  refine Calls.mono (reader_num base R (0) (1099511627776) _ _ M.rd) ?_
  rintro e u3 ⟨q, rfl, ⟨b0q, b1q⟩, hq, hR, ho⟩
  replace M := M.call hR ho
  have Hq := Lib.hid hq
  have ci := M.blk.cell (i := 1) rfl
  have fi := M.blk.free 1
  clear hR ho hq
  have cx := M.blk.cell (i := 2) rfl
  have HQ : Hid (∀ l, (rnum (0) (1099511627776) (rnum (1) (8) (rnum (1) (7) s).2).2).2 = .ok l → k = (rnum 1 7 s).1 ∧ p = (rnum 1 8 (rnum 1 7 s).2).1 ∧ q = (rnum 0 1099511627776 (rnum 1 8 (rnum 1 7 s).2).2).1) := by
    intro l hl
    obtain ⟨m2, h2⟩ := ok_num hl
    obtain ⟨m1, h1⟩ := ok_num h2
    exact ⟨Hk.out _ h1, Hp.out _ h2, Hq.out _ hl⟩
  have HE : Hid (∀ e w', ReadsCmd base R w (rrest k p q (rnum (0) (1099511627776) (rnum (1) (8) (rnum (1) (7) s).2).2).2) e w' → ReadsCmd base R w (readC s) e w') := fun e w' h => readsCmd_same HQ.out h
  clear Hk Hp Hq HQ
  generalize (rnum (0) (1099511627776) (rnum (1) (8) (rnum (1) (7) s).2).2).2 = s3 at *
  have hk7 : k = 1 ∨ k = 2 ∨ k = 3 ∨ k = 4 ∨ k = 5 ∨ k = 6 ∨ k = 7 ∨ ¬ (k = 1 ∨ k = 2 ∨ k = 3 ∨ k = 4 ∨ k = 5 ∨ k = 6 ∨ k = 7) := by omega
  rcases hk7 with rfl | rfl | rfl | rfl | rfl | rfl | rfl | hk7
  · skip
    go_wp2_with fail
    clear cx
    replace M : RdC w (u3.setCell ⟨C, 1, none⟩ (.int .i64 q)) base R C _ (cmdCs p q 1 0 none 0 0 0 0 0 0 0) := M.put 1 (.int .i64 q)
    generalize u3.setCell ⟨C, 1, none⟩ (.int .i64 q) = v3 at *
    clear ci fi
    refine Calls.mono (reader_num base R (0) (3) _ _ M.rd) ?_
    rintro e u4 ⟨n, rfl, ⟨b0n, b1n⟩, hn, hR, ho⟩
    replace M := M.call hR ho
    have Hn := Lib.hid hn
    have ci := M.blk.cell (i := 3) rfl
    have fi := M.blk.free 3
    clear hR ho hn
    go_wp2_with fail
    replace M : RdC w (u4.setCell ⟨C, 3, none⟩ (.int .i64 n)) base R C _ (cmdCs p q 1 n none 0 0 0 0 0 0 0) := M.put 3 (.int .i64 n)
    generalize u4.setCell ⟨C, 3, none⟩ (.int .i64 n) = v4 at *
    clear ci fi
    refine Calls.mono (reader_int base R (-1099511627776) (1099511627776) _ _ M.rd) ?_
    rintro e u5 ⟨x, rfl, ⟨b0x, b1x⟩, hx, hR, ho⟩
    replace M := M.call hR ho
    have Hx := Lib.hid hx
    have ci := M.blk.cell (i := 8) rfl
    have fi := M.blk.free 8
    clear hR ho hx
    go_wp2_with fail
    replace M : RdC w (u5.setCell ⟨C, 8, none⟩ (.int .i64 x)) base R C _ (cmdCs p q 1 n none 0 0 0 0 0 x 0) := M.put 8 (.int .i64 x)
    generalize u5.setCell ⟨C, 8, none⟩ (.int .i64 x) = v5 at *
    clear ci fi
    refine Calls.mono (reader_int base R (-1099511627776) (1099511627776) _ _ M.rd) ?_
    rintro e u6 ⟨y, rfl, ⟨b0y, b1y⟩, hy, hR, ho⟩
    replace M := M.call hR ho
    have Hy := Lib.hid hy
    have d0 := M.blk.cell (i := 0) rfl
    have e0 := M.blk.free 0
    have d1 := M.blk.cell (i := 1) rfl
    have e1 := M.blk.free 1
    have d2 := M.blk.cell (i := 2) rfl
    have e2 := M.blk.free 2
    have d3 := M.blk.cell (i := 3) rfl
    have e3 := M.blk.free 3
    have d4 := M.blk.cell (i := 4) rfl
    have e4 := M.blk.free 4
    have d5 := M.blk.cell (i := 5) rfl
    have e5 := M.blk.free 5
    have d6 := M.blk.cell (i := 6) rfl
    have e6 := M.blk.free 6
    have d7 := M.blk.cell (i := 7) rfl
    have e7 := M.blk.free 7
    have d8 := M.blk.cell (i := 8) rfl
    have e8 := M.blk.free 8
    have d9 := M.blk.cell (i := 9) rfl
    have e9 := M.blk.free 9
    clear hR ho hy
    go_wp2_with fail
    replace M : RdC w (u6.setCell ⟨C, 9, none⟩ (.int .i64 y)) base R C _ (cmdCs p q 1 n none 0 0 0 0 0 x y) := M.put 9 (.int .i64 y)
    generalize u6.setCell ⟨C, 9, none⟩ (.int .i64 y) = v6 at *
    have HM := Lib.hid M
    rw [setCells_back HM.out.blk]
    have q0 : v6.cell? ⟨C, 0, none⟩ = some (.int .i64 p) := HM.out.blk.cell rfl
    have q1 : v6.cell? ⟨C, 1, none⟩ = some (.int .i64 q) := HM.out.blk.cell rfl
    have q2 : v6.cell? ⟨C, 2, none⟩ = some (.int .i64 1) := HM.out.blk.cell rfl
    have q3 : v6.cell? ⟨C, 3, none⟩ = some (.int .i64 n) := HM.out.blk.cell rfl
    have q4 : v6.cell? ⟨C, 4, none⟩ = some (.slice none 0 0) := HM.out.blk.cell rfl
    have q5 : v6.cell? ⟨C, 5, none⟩ = some (.int .i64 0) := HM.out.blk.cell rfl
    have q6 : v6.cell? ⟨C, 6, none⟩ = some (.int .i64 0) := HM.out.blk.cell rfl
    have q7 : v6.cell? ⟨C, 7, none⟩ = some (.int .i64 0) := HM.out.blk.cell rfl
    have q8 : v6.cell? ⟨C, 8, none⟩ = some (.int .i64 x) := HM.out.blk.cell rfl
    have q9 : v6.cell? ⟨C, 9, none⟩ = some (.int .i64 y) := HM.out.blk.cell rfl
    refine bodyPost_ret (v := cmdV (⟨p, q, 1, n, [], 0, 0, 0, x, y⟩ : Cmd) none 0 0) (by simp [results, Try.results40, go_sem, cmdV, q0, q1, q2, q3, q4, q5, q6, q7, q8, q9]) rfl (HE.out _ _ ?_)
    refine ⟨none, 0, 0, (⟨p, q, 1, n, [], 0, 0, 0, x, y⟩ : Cmd), rfl, World.ownsRow_nil _ _ _ _, by omega, fun l hl => ?_, HM.out.rd, HM.out.only⟩
    have z3 : (rint (-1099511627776) (1099511627776) (rint (-1099511627776) (1099511627776) (rnum (0) (3) s3).2).2).2 = .ok l := hl
    obtain ⟨_, z2⟩ := ok_int z3
    obtain ⟨_, z1⟩ := ok_int z2
    rw [Hn.out _ z1, Hx.out _ z2, Hy.out _ z3]
    rfl
  · skip
    go_wp2_with fail
    clear cx
    replace M : RdC w (u3.setCell ⟨C, 1, none⟩ (.int .i64 q)) base R C _ (cmdCs p q 2 0 none 0 0 0 0 0 0 0) := M.put 1 (.int .i64 q)
    generalize u3.setCell ⟨C, 1, none⟩ (.int .i64 q) = v3 at *
    clear ci fi
    refine Calls.mono (read_ids base R _ _ M.rd) ?_
    rintro e u4 ⟨A, m, c, us, rfl, hown, hm66, hu, hR, ho⟩
    have hbs : C < v3.heap.size := by have := M.blk.lt; assumption
    have hms : w.heap.size ≤ v3.heap.size := M.only.size
    replace M := M.call hR ho
    have Hu := Lib.hid hu
    have ci := M.blk.cell (i := 4) rfl
    have fi := M.blk.free 4
    clear hR ho hu
    go_wp2_with fail
    replace M : RdC w (u4.setCell ⟨C, 4, none⟩ (.slice A m c)) base R C _ (cmdCs p q 2 0 A m c 0 0 0 0 0) := M.put 4 (.slice A m c)
    replace hown := own_low hown (a := ⟨C, 4, none⟩) (by exact hbs) (.slice A m c)
    generalize u4.setCell ⟨C, 4, none⟩ (.slice A m c) = v4 at *
    clear ci fi
    refine Calls.mono (reader_num base R (0) (16383) _ _ M.rd) ?_
    rintro e u5 ⟨t, rfl, ⟨b0t, b1t⟩, ht, hR, ho⟩
    replace hown := own_only hown ho (by have := M.rd.lt; omega)
    replace M := M.call hR ho
    have Ht := Lib.hid ht
    have d0 := M.blk.cell (i := 0) rfl
    have e0 := M.blk.free 0
    have d1 := M.blk.cell (i := 1) rfl
    have e1 := M.blk.free 1
    have d2 := M.blk.cell (i := 2) rfl
    have e2 := M.blk.free 2
    have d3 := M.blk.cell (i := 3) rfl
    have e3 := M.blk.free 3
    have d4 := M.blk.cell (i := 4) rfl
    have e4 := M.blk.free 4
    have d5 := M.blk.cell (i := 5) rfl
    have e5 := M.blk.free 5
    have d6 := M.blk.cell (i := 6) rfl
    have e6 := M.blk.free 6
    have d7 := M.blk.cell (i := 7) rfl
    have e7 := M.blk.free 7
    have d8 := M.blk.cell (i := 8) rfl
    have e8 := M.blk.free 8
    have d9 := M.blk.cell (i := 9) rfl
    have e9 := M.blk.free 9
    clear hR ho ht
    go_wp2_with fail
    replace M : RdC w (u5.setCell ⟨C, 5, none⟩ (.int .i64 t)) base R C _ (cmdCs p q 2 0 A m c t 0 0 0 0) := M.put 5 (.int .i64 t)
    replace hown := own_low hown (a := ⟨C, 5, none⟩) (by exact hbs) (.int .i64 t)
    generalize u5.setCell ⟨C, 5, none⟩ (.int .i64 t) = v5 at *
    have HM := Lib.hid M
    rw [setCells_back HM.out.blk]
    have q0 : v5.cell? ⟨C, 0, none⟩ = some (.int .i64 p) := HM.out.blk.cell rfl
    have q1 : v5.cell? ⟨C, 1, none⟩ = some (.int .i64 q) := HM.out.blk.cell rfl
    have q2 : v5.cell? ⟨C, 2, none⟩ = some (.int .i64 2) := HM.out.blk.cell rfl
    have q3 : v5.cell? ⟨C, 3, none⟩ = some (.int .i64 0) := HM.out.blk.cell rfl
    have q4 : v5.cell? ⟨C, 4, none⟩ = some (.slice A m c) := HM.out.blk.cell rfl
    have q5 : v5.cell? ⟨C, 5, none⟩ = some (.int .i64 t) := HM.out.blk.cell rfl
    have q6 : v5.cell? ⟨C, 6, none⟩ = some (.int .i64 0) := HM.out.blk.cell rfl
    have q7 : v5.cell? ⟨C, 7, none⟩ = some (.int .i64 0) := HM.out.blk.cell rfl
    have q8 : v5.cell? ⟨C, 8, none⟩ = some (.int .i64 0) := HM.out.blk.cell rfl
    have q9 : v5.cell? ⟨C, 9, none⟩ = some (.int .i64 0) := HM.out.blk.cell rfl
    refine bodyPost_ret (v := cmdV (⟨p, q, 2, 0, us, t, 0, 0, 0, 0⟩ : Cmd) A m c) (by simp [results, Try.results40, go_sem, cmdV, q0, q1, q2, q3, q4, q5, q6, q7, q8, q9]) rfl (HE.out _ _ ?_)
    refine ⟨A, m, c, (⟨p, q, 2, 0, us, t, 0, 0, 0, 0⟩ : Cmd), rfl, own_mono hown (by omega), by omega, fun l hl => ?_, HM.out.rd, HM.out.only⟩
    have z2 : (rnum (0) (16383) (rus s3).2).2 = .ok l := hl
    obtain ⟨_, z1⟩ := ok_num z2
    rw [Hu.out _ z1, Ht.out _ z2]
    rfl
  · skip
    go_wp2_with fail
    clear cx
    replace M : RdC w (u3.setCell ⟨C, 1, none⟩ (.int .i64 q)) base R C _ (cmdCs p q 3 0 none 0 0 0 0 0 0 0) := M.put 1 (.int .i64 q)
    generalize u3.setCell ⟨C, 1, none⟩ (.int .i64 q) = v3 at *
    clear ci fi
    refine Calls.mono (read_ids base R _ _ M.rd) ?_
    rintro e u4 ⟨A, m, c, us, rfl, hown, hm66, hu, hR, ho⟩
    have hbs : C < v3.heap.size := by have := M.blk.lt; assumption
    have hms : w.heap.size ≤ v3.heap.size := M.only.size
    replace M := M.call hR ho
    have Hu := Lib.hid hu
    have d0 := M.blk.cell (i := 0) rfl
    have e0 := M.blk.free 0
    have d1 := M.blk.cell (i := 1) rfl
    have e1 := M.blk.free 1
    have d2 := M.blk.cell (i := 2) rfl
    have e2 := M.blk.free 2
    have d3 := M.blk.cell (i := 3) rfl
    have e3 := M.blk.free 3
    have d4 := M.blk.cell (i := 4) rfl
    have e4 := M.blk.free 4
    have d5 := M.blk.cell (i := 5) rfl
    have e5 := M.blk.free 5
    have d6 := M.blk.cell (i := 6) rfl
    have e6 := M.blk.free 6
    have d7 := M.blk.cell (i := 7) rfl
    have e7 := M.blk.free 7
    have d8 := M.blk.cell (i := 8) rfl
    have e8 := M.blk.free 8
    have d9 := M.blk.cell (i := 9) rfl
    have e9 := M.blk.free 9
    clear hR ho hu
    go_wp2_with fail
    replace M : RdC w (u4.setCell ⟨C, 4, none⟩ (.slice A m c)) base R C _ (cmdCs p q 3 0 A m c 0 0 0 0 0) := M.put 4 (.slice A m c)
    replace hown := own_low hown (a := ⟨C, 4, none⟩) (by exact hbs) (.slice A m c)
    generalize u4.setCell ⟨C, 4, none⟩ (.slice A m c) = v4 at *
    have HM := Lib.hid M
    rw [setCells_back HM.out.blk]
    have q0 : v4.cell? ⟨C, 0, none⟩ = some (.int .i64 p) := HM.out.blk.cell rfl
    have q1 : v4.cell? ⟨C, 1, none⟩ = some (.int .i64 q) := HM.out.blk.cell rfl
    have q2 : v4.cell? ⟨C, 2, none⟩ = some (.int .i64 3) := HM.out.blk.cell rfl
    have q3 : v4.cell? ⟨C, 3, none⟩ = some (.int .i64 0) := HM.out.blk.cell rfl
    have q4 : v4.cell? ⟨C, 4, none⟩ = some (.slice A m c) := HM.out.blk.cell rfl
    have q5 : v4.cell? ⟨C, 5, none⟩ = some (.int .i64 0) := HM.out.blk.cell rfl
    have q6 : v4.cell? ⟨C, 6, none⟩ = some (.int .i64 0) := HM.out.blk.cell rfl
    have q7 : v4.cell? ⟨C, 7, none⟩ = some (.int .i64 0) := HM.out.blk.cell rfl
    have q8 : v4.cell? ⟨C, 8, none⟩ = some (.int .i64 0) := HM.out.blk.cell rfl
    have q9 : v4.cell? ⟨C, 9, none⟩ = some (.int .i64 0) := HM.out.blk.cell rfl
    refine bodyPost_ret (v := cmdV (⟨p, q, 3, 0, us, 0, 0, 0, 0, 0⟩ : Cmd) A m c) (by simp [results, Try.results40, go_sem, cmdV, q0, q1, q2, q3, q4, q5, q6, q7, q8, q9]) rfl (HE.out _ _ ?_)
    refine ⟨A, m, c, (⟨p, q, 3, 0, us, 0, 0, 0, 0, 0⟩ : Cmd), rfl, own_mono hown (by omega), by omega, fun l hl => ?_, HM.out.rd, HM.out.only⟩
    have z1 : (rus s3).2 = .ok l := hl
    rw [Hu.out _ z1]
    rfl
  · skip
    go_wp2_with fail
    clear cx
    replace M : RdC w (u3.setCell ⟨C, 1, none⟩ (.int .i64 q)) base R C _ (cmdCs p q 4 0 none 0 0 0 0 0 0 0) := M.put 1 (.int .i64 q)
    generalize u3.setCell ⟨C, 1, none⟩ (.int .i64 q) = v3 at *
    clear ci fi
    refine Calls.mono (reader_num base R (0) (16383) _ _ M.rd) ?_
    rintro e u4 ⟨t, rfl, ⟨b0t, b1t⟩, ht, hR, ho⟩
    replace M := M.call hR ho
    have Ht := Lib.hid ht
    have ci := M.blk.cell (i := 5) rfl
    have fi := M.blk.free 5
    clear hR ho ht
    go_wp2_with fail
    replace M : RdC w (u4.setCell ⟨C, 5, none⟩ (.int .i64 t)) base R C _ (cmdCs p q 4 0 none 0 0 t 0 0 0 0) := M.put 5 (.int .i64 t)
    generalize u4.setCell ⟨C, 5, none⟩ (.int .i64 t) = v4 at *
    clear ci fi
    refine Calls.mono (reader_num base R (1) (4) _ _ M.rd) ?_
    rintro e u5 ⟨g, rfl, ⟨b0g, b1g⟩, hg, hR, ho⟩
    replace M := M.call hR ho
    have Hg := Lib.hid hg
    have ci := M.blk.cell (i := 6) rfl
    have fi := M.blk.free 6
    clear hR ho hg
    go_wp2_with fail
    replace M : RdC w (u5.setCell ⟨C, 6, none⟩ (.int .i64 g)) base R C _ (cmdCs p q 4 0 none 0 0 t g 0 0 0) := M.put 6 (.int .i64 g)
    generalize u5.setCell ⟨C, 6, none⟩ (.int .i64 g) = v5 at *
    clear ci fi
    refine Calls.mono (reader_num base R (1) (4) _ _ M.rd) ?_
    rintro e u6 ⟨f, rfl, ⟨b0f, b1f⟩, hf, hR, ho⟩
    replace M := M.call hR ho
    have Hf := Lib.hid hf
    have d0 := M.blk.cell (i := 0) rfl
    have e0 := M.blk.free 0
    have d1 := M.blk.cell (i := 1) rfl
    have e1 := M.blk.free 1
    have d2 := M.blk.cell (i := 2) rfl
    have e2 := M.blk.free 2
    have d3 := M.blk.cell (i := 3) rfl
    have e3 := M.blk.free 3
    have d4 := M.blk.cell (i := 4) rfl
    have e4 := M.blk.free 4
    have d5 := M.blk.cell (i := 5) rfl
    have e5 := M.blk.free 5
    have d6 := M.blk.cell (i := 6) rfl
    have e6 := M.blk.free 6
    have d7 := M.blk.cell (i := 7) rfl
    have e7 := M.blk.free 7
    have d8 := M.blk.cell (i := 8) rfl
    have e8 := M.blk.free 8
    have d9 := M.blk.cell (i := 9) rfl
    have e9 := M.blk.free 9
    clear hR ho hf
    go_wp2_with fail
    replace M : RdC w (u6.setCell ⟨C, 7, none⟩ (.int .i64 f)) base R C _ (cmdCs p q 4 0 none 0 0 t g f 0 0) := M.put 7 (.int .i64 f)
    generalize u6.setCell ⟨C, 7, none⟩ (.int .i64 f) = v6 at *
    have HM := Lib.hid M
    rw [setCells_back HM.out.blk]
    have q0 : v6.cell? ⟨C, 0, none⟩ = some (.int .i64 p) := HM.out.blk.cell rfl
    have q1 : v6.cell? ⟨C, 1, none⟩ = some (.int .i64 q) := HM.out.blk.cell rfl
    have q2 : v6.cell? ⟨C, 2, none⟩ = some (.int .i64 4) := HM.out.blk.cell rfl
    have q3 : v6.cell? ⟨C, 3, none⟩ = some (.int .i64 0) := HM.out.blk.cell rfl
    have q4 : v6.cell? ⟨C, 4, none⟩ = some (.slice none 0 0) := HM.out.blk.cell rfl
    have q5 : v6.cell? ⟨C, 5, none⟩ = some (.int .i64 t) := HM.out.blk.cell rfl
    have q6 : v6.cell? ⟨C, 6, none⟩ = some (.int .i64 g) := HM.out.blk.cell rfl
    have q7 : v6.cell? ⟨C, 7, none⟩ = some (.int .i64 f) := HM.out.blk.cell rfl
    have q8 : v6.cell? ⟨C, 8, none⟩ = some (.int .i64 0) := HM.out.blk.cell rfl
    have q9 : v6.cell? ⟨C, 9, none⟩ = some (.int .i64 0) := HM.out.blk.cell rfl
    refine bodyPost_ret (v := cmdV (⟨p, q, 4, 0, [], t, g, f, 0, 0⟩ : Cmd) none 0 0) (by simp [results, Try.results40, go_sem, cmdV, q0, q1, q2, q3, q4, q5, q6, q7, q8, q9]) rfl (HE.out _ _ ?_)
    refine ⟨none, 0, 0, (⟨p, q, 4, 0, [], t, g, f, 0, 0⟩ : Cmd), rfl, World.ownsRow_nil _ _ _ _, by omega, fun l hl => ?_, HM.out.rd, HM.out.only⟩
    have z3 : (rnum (1) (4) (rnum (1) (4) (rnum (0) (16383) s3).2).2).2 = .ok l := hl
    obtain ⟨_, z2⟩ := ok_num z3
    obtain ⟨_, z1⟩ := ok_num z2
    rw [Ht.out _ z1, Hg.out _ z2, Hf.out _ z3]
    rfl
  · skip
    go_wp2_with fail
    clear cx
    replace M : RdC w (u3.setCell ⟨C, 1, none⟩ (.int .i64 q)) base R C _ (cmdCs p q 5 0 none 0 0 0 0 0 0 0) := M.put 1 (.int .i64 q)
    generalize u3.setCell ⟨C, 1, none⟩ (.int .i64 q) = v3 at *
    clear ci fi
    refine Calls.mono (reader_num base R (1) (1099511627776) _ _ M.rd) ?_
    rintro e u4 ⟨n, rfl, ⟨b0n, b1n⟩, hn, hR, ho⟩
    replace M := M.call hR ho
    have Hn := Lib.hid hn
    have d0 := M.blk.cell (i := 0) rfl
    have e0 := M.blk.free 0
    have d1 := M.blk.cell (i := 1) rfl
    have e1 := M.blk.free 1
    have d2 := M.blk.cell (i := 2) rfl
    have e2 := M.blk.free 2
    have d3 := M.blk.cell (i := 3) rfl
    have e3 := M.blk.free 3
    have d4 := M.blk.cell (i := 4) rfl
    have e4 := M.blk.free 4
    have d5 := M.blk.cell (i := 5) rfl
    have e5 := M.blk.free 5
    have d6 := M.blk.cell (i := 6) rfl
    have e6 := M.blk.free 6
    have d7 := M.blk.cell (i := 7) rfl
    have e7 := M.blk.free 7
    have d8 := M.blk.cell (i := 8) rfl
    have e8 := M.blk.free 8
    have d9 := M.blk.cell (i := 9) rfl
    have e9 := M.blk.free 9
    clear hR ho hn
    go_wp2_with fail
    replace M : RdC w (u4.setCell ⟨C, 3, none⟩ (.int .i64 n)) base R C _ (cmdCs p q 5 n none 0 0 0 0 0 0 0) := M.put 3 (.int .i64 n)
    generalize u4.setCell ⟨C, 3, none⟩ (.int .i64 n) = v4 at *
    have HM := Lib.hid M
    rw [setCells_back HM.out.blk]
    have q0 : v4.cell? ⟨C, 0, none⟩ = some (.int .i64 p) := HM.out.blk.cell rfl
    have q1 : v4.cell? ⟨C, 1, none⟩ = some (.int .i64 q) := HM.out.blk.cell rfl
    have q2 : v4.cell? ⟨C, 2, none⟩ = some (.int .i64 5) := HM.out.blk.cell rfl
    have q3 : v4.cell? ⟨C, 3, none⟩ = some (.int .i64 n) := HM.out.blk.cell rfl
    have q4 : v4.cell? ⟨C, 4, none⟩ = some (.slice none 0 0) := HM.out.blk.cell rfl
    have q5 : v4.cell? ⟨C, 5, none⟩ = some (.int .i64 0) := HM.out.blk.cell rfl
    have q6 : v4.cell? ⟨C, 6, none⟩ = some (.int .i64 0) := HM.out.blk.cell rfl
    have q7 : v4.cell? ⟨C, 7, none⟩ = some (.int .i64 0) := HM.out.blk.cell rfl
    have q8 : v4.cell? ⟨C, 8, none⟩ = some (.int .i64 0) := HM.out.blk.cell rfl
    have q9 : v4.cell? ⟨C, 9, none⟩ = some (.int .i64 0) := HM.out.blk.cell rfl
    refine bodyPost_ret (v := cmdV (⟨p, q, 5, n, [], 0, 0, 0, 0, 0⟩ : Cmd) none 0 0) (by simp [results, Try.results40, go_sem, cmdV, q0, q1, q2, q3, q4, q5, q6, q7, q8, q9]) rfl (HE.out _ _ ?_)
    refine ⟨none, 0, 0, (⟨p, q, 5, n, [], 0, 0, 0, 0, 0⟩ : Cmd), rfl, World.ownsRow_nil _ _ _ _, by omega, fun l hl => ?_, HM.out.rd, HM.out.only⟩
    have z1 : (rnum (1) (1099511627776) s3).2 = .ok l := hl
    rw [Hn.out _ z1]
    rfl
  · skip
    go_wp2_with fail
    clear cx
    replace M : RdC w (u3.setCell ⟨C, 1, none⟩ (.int .i64 q)) base R C _ (cmdCs p q 6 0 none 0 0 0 0 0 0 0) := M.put 1 (.int .i64 q)
    generalize u3.setCell ⟨C, 1, none⟩ (.int .i64 q) = v3 at *
    clear ci fi
    refine Calls.mono (read_ids base R _ _ M.rd) ?_
    rintro e u4 ⟨A, m, c, us, rfl, hown, hm66, hu, hR, ho⟩
    have hbs : C < v3.heap.size := by have := M.blk.lt; assumption
    have hms : w.heap.size ≤ v3.heap.size := M.only.size
    replace M := M.call hR ho
    have Hu := Lib.hid hu
    have ci := M.blk.cell (i := 4) rfl
    have fi := M.blk.free 4
    clear hR ho hu
    go_wp2_with fail
    replace M : RdC w (u4.setCell ⟨C, 4, none⟩ (.slice A m c)) base R C _ (cmdCs p q 6 0 A m c 0 0 0 0 0) := M.put 4 (.slice A m c)
    replace hown := own_low hown (a := ⟨C, 4, none⟩) (by exact hbs) (.slice A m c)
    generalize u4.setCell ⟨C, 4, none⟩ (.slice A m c) = v4 at *
    clear ci fi
    refine Calls.mono (reader_num base R (1) (1099511627776) _ _ M.rd) ?_
    rintro e u5 ⟨n, rfl, ⟨b0n, b1n⟩, hn, hR, ho⟩
    replace hown := own_only hown ho (by have := M.rd.lt; omega)
    replace M := M.call hR ho
    have Hn := Lib.hid hn
    have d0 := M.blk.cell (i := 0) rfl
    have e0 := M.blk.free 0
    have d1 := M.blk.cell (i := 1) rfl
    have e1 := M.blk.free 1
    have d2 := M.blk.cell (i := 2) rfl
    have e2 := M.blk.free 2
    have d3 := M.blk.cell (i := 3) rfl
    have e3 := M.blk.free 3
    have d4 := M.blk.cell (i := 4) rfl
    have e4 := M.blk.free 4
    have d5 := M.blk.cell (i := 5) rfl
    have e5 := M.blk.free 5
    have d6 := M.blk.cell (i := 6) rfl
    have e6 := M.blk.free 6
    have d7 := M.blk.cell (i := 7) rfl
    have e7 := M.blk.free 7
    have d8 := M.blk.cell (i := 8) rfl
    have e8 := M.blk.free 8
    have d9 := M.blk.cell (i := 9) rfl
    have e9 := M.blk.free 9
    clear hR ho hn
    go_wp2_with fail
    replace M : RdC w (u5.setCell ⟨C, 3, none⟩ (.int .i64 n)) base R C _ (cmdCs p q 6 n A m c 0 0 0 0 0) := M.put 3 (.int .i64 n)
    replace hown := own_low hown (a := ⟨C, 3, none⟩) (by exact hbs) (.int .i64 n)
    generalize u5.setCell ⟨C, 3, none⟩ (.int .i64 n) = v5 at *
    have HM := Lib.hid M
    rw [setCells_back HM.out.blk]
    have q0 : v5.cell? ⟨C, 0, none⟩ = some (.int .i64 p) := HM.out.blk.cell rfl
    have q1 : v5.cell? ⟨C, 1, none⟩ = some (.int .i64 q) := HM.out.blk.cell rfl
    have q2 : v5.cell? ⟨C, 2, none⟩ = some (.int .i64 6) := HM.out.blk.cell rfl
    have q3 : v5.cell? ⟨C, 3, none⟩ = some (.int .i64 n) := HM.out.blk.cell rfl
    have q4 : v5.cell? ⟨C, 4, none⟩ = some (.slice A m c) := HM.out.blk.cell rfl
    have q5 : v5.cell? ⟨C, 5, none⟩ = some (.int .i64 0) := HM.out.blk.cell rfl
    have q6 : v5.cell? ⟨C, 6, none⟩ = some (.int .i64 0) := HM.out.blk.cell rfl
    have q7 : v5.cell? ⟨C, 7, none⟩ = some (.int .i64 0) := HM.out.blk.cell rfl
    have q8 : v5.cell? ⟨C, 8, none⟩ = some (.int .i64 0) := HM.out.blk.cell rfl
    have q9 : v5.cell? ⟨C, 9, none⟩ = some (.int .i64 0) := HM.out.blk.cell rfl
    refine bodyPost_ret (v := cmdV (⟨p, q, 6, n, us, 0, 0, 0, 0, 0⟩ : Cmd) A m c) (by simp [results, Try.results40, go_sem, cmdV, q0, q1, q2, q3, q4, q5, q6, q7, q8, q9]) rfl (HE.out _ _ ?_)
    refine ⟨A, m, c, (⟨p, q, 6, n, us, 0, 0, 0, 0, 0⟩ : Cmd), rfl, own_mono hown (by omega), by omega, fun l hl => ?_, HM.out.rd, HM.out.only⟩
    have z2 : (rnum (1) (1099511627776) (rus s3).2).2 = .ok l := hl
    obtain ⟨_, z1⟩ := ok_num z2
    rw [Hu.out _ z1, Hn.out _ z2]
    rfl
  · skip
    go_wp2_with fail
    clear cx
    replace M : RdC w (u3.setCell ⟨C, 1, none⟩ (.int .i64 q)) base R C _ (cmdCs p q 7 0 none 0 0 0 0 0 0 0) := M.put 1 (.int .i64 q)
    generalize u3.setCell ⟨C, 1, none⟩ (.int .i64 q) = v3 at *
    clear ci fi
    refine Calls.mono (reader_num base R (1) (1099511627776) _ _ M.rd) ?_
    rintro e u4 ⟨n, rfl, ⟨b0n, b1n⟩, hn, hR, ho⟩
    replace M := M.call hR ho
    have Hn := Lib.hid hn
    have ci := M.blk.cell (i := 3) rfl
    have fi := M.blk.free 3
    clear hR ho hn
    go_wp2_with fail
    replace M : RdC w (u4.setCell ⟨C, 3, none⟩ (.int .i64 n)) base R C _ (cmdCs p q 7 n none 0 0 0 0 0 0 0) := M.put 3 (.int .i64 n)
    generalize u4.setCell ⟨C, 3, none⟩ (.int .i64 n) = v4 at *
    clear ci fi
    refine Calls.mono (reader_num base R (0) (16383) _ _ M.rd) ?_
    rintro e u5 ⟨t, rfl, ⟨b0t, b1t⟩, ht, hR, ho⟩
    replace M := M.call hR ho
    have Ht := Lib.hid ht
    have d0 := M.blk.cell (i := 0) rfl
    have e0 := M.blk.free 0
    have d1 := M.blk.cell (i := 1) rfl
    have e1 := M.blk.free 1
    have d2 := M.blk.cell (i := 2) rfl
    have e2 := M.blk.free 2
    have d3 := M.blk.cell (i := 3) rfl
    have e3 := M.blk.free 3
    have d4 := M.blk.cell (i := 4) rfl
    have e4 := M.blk.free 4
    have d5 := M.blk.cell (i := 5) rfl
    have e5 := M.blk.free 5
    have d6 := M.blk.cell (i := 6) rfl
    have e6 := M.blk.free 6
    have d7 := M.blk.cell (i := 7) rfl
    have e7 := M.blk.free 7
    have d8 := M.blk.cell (i := 8) rfl
    have e8 := M.blk.free 8
    have d9 := M.blk.cell (i := 9) rfl
    have e9 := M.blk.free 9
    clear hR ho ht
    go_wp2_with fail
    replace M : RdC w (u5.setCell ⟨C, 5, none⟩ (.int .i64 t)) base R C _ (cmdCs p q 7 n none 0 0 t 0 0 0 0) := M.put 5 (.int .i64 t)
    generalize u5.setCell ⟨C, 5, none⟩ (.int .i64 t) = v5 at *
    have HM := Lib.hid M
    rw [setCells_back HM.out.blk]
    have q0 : v5.cell? ⟨C, 0, none⟩ = some (.int .i64 p) := HM.out.blk.cell rfl
    have q1 : v5.cell? ⟨C, 1, none⟩ = some (.int .i64 q) := HM.out.blk.cell rfl
    have q2 : v5.cell? ⟨C, 2, none⟩ = some (.int .i64 7) := HM.out.blk.cell rfl
    have q3 : v5.cell? ⟨C, 3, none⟩ = some (.int .i64 n) := HM.out.blk.cell rfl
    have q4 : v5.cell? ⟨C, 4, none⟩ = some (.slice none 0 0) := HM.out.blk.cell rfl
    have q5 : v5.cell? ⟨C, 5, none⟩ = some (.int .i64 t) := HM.out.blk.cell rfl
    have q6 : v5.cell? ⟨C, 6, none⟩ = some (.int .i64 0) := HM.out.blk.cell rfl
    have q7 : v5.cell? ⟨C, 7, none⟩ = some (.int .i64 0) := HM.out.blk.cell rfl
    have q8 : v5.cell? ⟨C, 8, none⟩ = some (.int .i64 0) := HM.out.blk.cell rfl
    have q9 : v5.cell? ⟨C, 9, none⟩ = some (.int .i64 0) := HM.out.blk.cell rfl
    refine bodyPost_ret (v := cmdV (⟨p, q, 7, n, [], t, 0, 0, 0, 0⟩ : Cmd) none 0 0) (by simp [results, Try.results40, go_sem, cmdV, q0, q1, q2, q3, q4, q5, q6, q7, q8, q9]) rfl (HE.out _ _ ?_)
    refine ⟨none, 0, 0, (⟨p, q, 7, n, [], t, 0, 0, 0, 0⟩ : Cmd), rfl, World.ownsRow_nil _ _ _ _, by omega, fun l hl => ?_, HM.out.rd, HM.out.only⟩
    have z2 : (rnum (0) (16383) (rnum (1) (1099511627776) s3).2).2 = .ok l := hl
    obtain ⟨_, z1⟩ := ok_num z2
    rw [Hn.out _ z1, Ht.out _ z2]
    rfl
  · have y1 : (k == 1) = false := by rw [beq_eq_false_iff_ne]; omega
    have y2 : (k == 2) = false := by rw [beq_eq_false_iff_ne]; omega
    have y3 : (k == 3) = false := by rw [beq_eq_false_iff_ne]; omega
    have y4 : (k == 4) = false := by rw [beq_eq_false_iff_ne]; omega
    have y5 : (k == 5) = false := by rw [beq_eq_false_iff_ne]; omega
    have y6 : (k == 6) = false := by rw [beq_eq_false_iff_ne]; omega
    have y7 : (k == 7) = false := by rw [beq_eq_false_iff_ne]; omega
    clear cx ci fi
    have d0 := M.blk.cell (i := 0) rfl
    have e0 := M.blk.free 0
    have d1 := M.blk.cell (i := 1) rfl
    have e1 := M.blk.free 1
    have d2 := M.blk.cell (i := 2) rfl
    have e2 := M.blk.free 2
    have d3 := M.blk.cell (i := 3) rfl
    have e3 := M.blk.free 3
    have d4 := M.blk.cell (i := 4) rfl
    have e4 := M.blk.free 4
    have d5 := M.blk.cell (i := 5) rfl
    have e5 := M.blk.free 5
    have d6 := M.blk.cell (i := 6) rfl
    have e6 := M.blk.free 6
    have d7 := M.blk.cell (i := 7) rfl
    have e7 := M.blk.free 7
    have d8 := M.blk.cell (i := 8) rfl
    have e8 := M.blk.free 8
    have d9 := M.blk.cell (i := 9) rfl
    have e9 := M.blk.free 9
    go_wp2_with fail
    replace M : RdC w (u3.setCell ⟨C, 1, none⟩ (.int .i64 q)) base R C _ (cmdCs p q k 0 none 0 0 0 0 0 0 0) := M.put 1 (.int .i64 q)
    generalize u3.setCell ⟨C, 1, none⟩ (.int .i64 q) = v3 at *
    have HM := Lib.hid M
    rw [setCells_back HM.out.blk]
    have q0 : v3.cell? ⟨C, 0, none⟩ = some (.int .i64 p) := HM.out.blk.cell rfl
    have q1 : v3.cell? ⟨C, 1, none⟩ = some (.int .i64 q) := HM.out.blk.cell rfl
    have q2 : v3.cell? ⟨C, 2, none⟩ = some (.int .i64 k) := HM.out.blk.cell rfl
    have q3 : v3.cell? ⟨C, 3, none⟩ = some (.int .i64 0) := HM.out.blk.cell rfl
    have q4 : v3.cell? ⟨C, 4, none⟩ = some (.slice none 0 0) := HM.out.blk.cell rfl
    have q5 : v3.cell? ⟨C, 5, none⟩ = some (.int .i64 0) := HM.out.blk.cell rfl
    have q6 : v3.cell? ⟨C, 6, none⟩ = some (.int .i64 0) := HM.out.blk.cell rfl
    have q7 : v3.cell? ⟨C, 7, none⟩ = some (.int .i64 0) := HM.out.blk.cell rfl
    have q8 : v3.cell? ⟨C, 8, none⟩ = some (.int .i64 0) := HM.out.blk.cell rfl
    have q9 : v3.cell? ⟨C, 9, none⟩ = some (.int .i64 0) := HM.out.blk.cell rfl
    refine bodyPost_ret (v := cmdV (⟨p, q, k, 0, [], 0, 0, 0, 0, 0⟩ : Cmd) none 0 0) (by simp [results, Try.results40, go_sem, cmdV, q0, q1, q2, q3, q4, q5, q6, q7, q8, q9]) rfl (HE.out _ _ ?_)
    rw [rrest_no hk7]
    exact ⟨none, 0, 0, (⟨p, q, k, 0, [], 0, 0, 0, 0, 0⟩ : Cmd), rfl, World.ownsRow_nil _ _ _ _, by omega, fun _ _ => rfl, HM.out.rd, HM.out.only⟩
end Go.Proofs.Ytneigplmgellcaa
