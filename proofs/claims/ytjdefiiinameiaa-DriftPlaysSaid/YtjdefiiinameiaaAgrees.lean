/- The reference's Step and SetRate; agrees. -/
import Derived.Test.YtjdefiiinameiaaNil
import Derived.Test.YtjdefiiinameiaaRexc
namespace Go.Proofs.Ytjdefiiinameiaa
open Go.RowKit

/-- A clock of the reference in a new block. -/
def bx (w : World) (x y z : Int) : World := w.alloc (.cells #[.int .i64 x, .int .i64 y, .int .i64 z] 27)
theorem bx_size (w : World) (x y z : Int) : (bx w x y z).heap.size = w.heap.size + 1 := by simp [bx]
theorem bx_below (w : World) (x y z : Int) : Below w.heap.size w (bx w x y z) := (Below.refl _ _).alloc (Nat.le_refl _) _
theorem bx_cells {w w2 : World} {x y z : Int} (hb : Below (bx w x y z).heap.size (bx w x y z) w2) :
    w2.cell? ⟨w.heap.size, 0, none⟩ = some (.int .i64 x) ∧ w2.cell? ⟨w.heap.size, 1, none⟩ = some (.int .i64 y) ∧ w2.cell? ⟨w.heap.size, 2, none⟩ = some (.int .i64 z) := box_cells hb
/-- The boxed parameter and the result's place. -/
theorem bx2_cells {w w2 : World} {x y z x' y' z' : Int} (hb : Below (bx (bx w x y z) x' y' z').heap.size (bx (bx w x y z) x' y' z') w2) :
    (w2.cell? ⟨w.heap.size, 0, none⟩ = some (.int .i64 x) ∧ w2.cell? ⟨w.heap.size, 1, none⟩ = some (.int .i64 y) ∧ w2.cell? ⟨w.heap.size, 2, none⟩ = some (.int .i64 z)) ∧
    (w2.cell? ⟨w.heap.size + 1, 0, none⟩ = some (.int .i64 x') ∧ w2.cell? ⟨w.heap.size + 1, 1, none⟩ = some (.int .i64 y') ∧ w2.cell? ⟨w.heap.size + 1, 2, none⟩ = some (.int .i64 z')) ∧
    (w2.frozen? ⟨w.heap.size + 1, 0, none⟩ = false ∧ w2.frozen? ⟨w.heap.size + 1, 1, none⟩ = false ∧ w2.frozen? ⟨w.heap.size + 1, 2, none⟩ = false) ∧ w.heap.size + 2 ≤ w2.heap.size := by
  have h1 := bx_below (bx w x y z) x' y' z'
  have h2 := bx_cells hb
  rw [bx_size] at h2
  have hz := hb.size
  rw [bx_size, bx_size] at hz
  refine ⟨bx_cells (h1.trans (hb.mono h1.size)), h2, ⟨?_, ?_, ?_⟩, hz⟩
  all_goals
    rw [hb.frozen (by show w.heap.size + 1 < _; rw [bx_size, bx_size]; omega)]
    simp [bx]

/-- A clock of the reference as a result. -/
theorem ret_clk {x y z s x' y' z' s' : Int} (h : x = x' ∧ y = y' ∧ z = z' ∧ s = s') : Ending.returned (.tuple #[.agg #[.int .i64 x, .int .i64 y, .int .i64 z], .int .i64 s]) = .returned (.tuple #[.agg #[.int .i64 x', .int .i64 y', .int .i64 z'], .int .i64 s']) := by
  obtain ⟨rfl, rfl, rfl, rfl⟩ := h
  rfl

set_option maxHeartbeats 400000 in
theorem rstep_any {x y z : Int} (o : Okc x y z) (t d : Int) (w : World) :
    Calls Try.prog 32 #[.agg #[.int .i64 x, .int .i64 y, .int .i64 z], .int .i64 t, .int .i64 d] w fun e w' =>
      e = .returned (.tuple #[.agg #[.int .i64 (stX x y z t d), .int .i64 (stY x y z t d), .int .i64 z], .int .i64 (stE x y z t d)]) ∧ Below w.heap.size w w' := by
  have hb0 := (bx_below w x y z).trans ((bx_below (bx w x y z) 0 0 0).mono (bx_below w x y z).size)
  rcases sh_two x y z t with ⟨c1, c2⟩ | ⟨c1, c2, v1, v2, t1, t2, t3⟩
  · obtain ⟨s, hs⟩ : ∃ s, shE x y z t = s := ⟨_, rfl⟩
    have hne : (s != 0) = true := by rw [hs] at c1; rcases c1 with rfl | rfl <;> decide
    have e1 : stE x y z t d = s := by rw [stE, hs, if_neg (by rw [← hs]; omega)]
    have e2 : stX x y z t d = x := by rw [stX, e1, if_neg (by rw [← hs]; omega)]
    have e3 : stY x y z t d = y := by rw [stY, e1, if_neg (by rw [← hs]; omega)]
    have E := Lib.hid (And.intro e1 (And.intro e2 e3))
    have HS := Lib.hid (And.intro hs c2)
    clear c1 c2 hs e1 e2 e3
    go_enter Try.func32, Try.ntmps32
    go_wp2_with fail
    refine (rshow_any o t _).mono ?_
    rintro e w1 ⟨rfl, hb1⟩
    replace hb1 : Below (bx (bx w x y z) 0 0 0).heap.size (bx (bx w x y z) 0 0 0) w1 := hb1
    obtain ⟨⟨k0, k1, k2⟩, ⟨k3, k4, k5⟩, ⟨f3, f4, f5⟩, hz⟩ := bx2_cells hb1
    have hbb := hb0.trans (hb1.mono hb0.size)
    clear hb0 hb1
    rw [HS.out.1, HS.out.2]
    go_wp2_with fail
    exact bodyPost_ret (v := .tuple #[.agg #[.int .i64 x, .int .i64 y, .int .i64 z], .int .i64 s]) (by simp [results, Try.results32, go_sem, k3, k4, k5]) rfl ⟨ret_clk ⟨E.out.2.1.symm, E.out.2.2.symm, rfl, E.out.1.symm⟩, ((hbb.setCell (by simp) _).setCell (by simp) _).setCell (by simp) _⟩
  · have o2 := o.step t d
    by_cases hd : tmB (val x y z t + d) = true
    · have e1 : stE x y z t d = 0 := by rw [stE, c1, if_pos rfl, if_pos hd]
      have e2 : stX x y z t d = t := by rw [stX, e1, if_pos rfl]
      have e3 : stY x y z t d = val x y z t + d := by rw [stY, e1, if_pos rfl]
      have E := Lib.hid (And.intro e1 (And.intro e2 e3))
      have HS := Lib.hid (And.intro c1 c2)
      have HD := Lib.hid hd
      have hr := tmB_true hd
      obtain ⟨hr1, hr2⟩ := hr
      have hd1 : ¬ d < -1099511627776 := by omega
      have hd2 : ¬ 1099511627776 < d := by omega
      clear c1 c2 hd e1 e2 e3
      go_enter Try.func32, Try.ntmps32
      go_wp2_with fail
      refine (rshow_any o t _).mono ?_
      rintro e w1 ⟨rfl, hb1⟩
      replace hb1 : Below (bx (bx w x y z) 0 0 0).heap.size (bx (bx w x y z) 0 0 0) w1 := hb1
      obtain ⟨⟨k0, k1, k2⟩, ⟨k3, k4, k5⟩, ⟨f3, f4, f5⟩, hz⟩ := bx2_cells hb1
      have hbb := hb0.trans (hb1.mono hb0.size)
      clear hb0 hb1
      rw [HS.out.1, HS.out.2]
      go_wp2_with fail
      refine (rtime_any _ _).mono ?_
      rintro e w2 ⟨rfl, rfl⟩
      rw [HD.out]
      go_wp2_with fail
      exact bodyPost_ret (v := .tuple #[.agg #[.int .i64 t, .int .i64 (val x y z t + d), .int .i64 z], .int .i64 0]) (by simp [results, Try.results32, go_sem, k3, k4, k5]) rfl ⟨ret_clk ⟨E.out.2.1.symm, E.out.2.2.symm, rfl, E.out.1.symm⟩, ((hbb.setCell (by simp) _).setCell (by simp) _).setCell (by simp) _⟩
    · have e1 : stE x y z t d = 3 := by rw [stE, c1, if_pos rfl, if_neg hd]
      have e2 : stX x y z t d = x := by rw [stX, e1, if_neg (by decide)]
      have e3 : stY x y z t d = y := by rw [stY, e1, if_neg (by decide)]
      have E := Lib.hid (And.intro e1 (And.intro e2 e3))
      have HS := Lib.hid (And.intro c1 c2)
      have HD := Lib.hid (Bool.eq_false_iff.2 hd)
      have hdd : d < -1099511627776 ∨ (¬ d < -1099511627776 ∧ 1099511627776 < d) ∨ (¬ d < -1099511627776 ∧ ¬ 1099511627776 < d) := by omega
      clear c1 c2 hd e1 e2 e3
      rcases hdd with hd1 | ⟨hd1, hd2⟩ | ⟨hd1, hd2⟩
      · go_enter Try.func32, Try.ntmps32
        go_wp2_with fail
        refine (rshow_any o t _).mono ?_
        rintro e w1 ⟨rfl, hb1⟩
        replace hb1 : Below (bx (bx w x y z) 0 0 0).heap.size (bx (bx w x y z) 0 0 0) w1 := hb1
        obtain ⟨⟨k0, k1, k2⟩, ⟨k3, k4, k5⟩, ⟨f3, f4, f5⟩, hz⟩ := bx2_cells hb1
        have hbb := hb0.trans (hb1.mono hb0.size)
        clear hb0 hb1
        rw [HS.out.1, HS.out.2]
        go_wp2_with fail
        exact bodyPost_ret (v := .tuple #[.agg #[.int .i64 x, .int .i64 y, .int .i64 z], .int .i64 3]) (by simp [results, Try.results32, go_sem, k3, k4, k5]) rfl ⟨ret_clk ⟨E.out.2.1.symm, E.out.2.2.symm, rfl, E.out.1.symm⟩, ((hbb.setCell (by simp) _).setCell (by simp) _).setCell (by simp) _⟩
      · go_enter Try.func32, Try.ntmps32
        go_wp2_with fail
        refine (rshow_any o t _).mono ?_
        rintro e w1 ⟨rfl, hb1⟩
        replace hb1 : Below (bx (bx w x y z) 0 0 0).heap.size (bx (bx w x y z) 0 0 0) w1 := hb1
        obtain ⟨⟨k0, k1, k2⟩, ⟨k3, k4, k5⟩, ⟨f3, f4, f5⟩, hz⟩ := bx2_cells hb1
        have hbb := hb0.trans (hb1.mono hb0.size)
        clear hb0 hb1
        rw [HS.out.1, HS.out.2]
        go_wp2_with fail
        exact bodyPost_ret (v := .tuple #[.agg #[.int .i64 x, .int .i64 y, .int .i64 z], .int .i64 3]) (by simp [results, Try.results32, go_sem, k3, k4, k5]) rfl ⟨ret_clk ⟨E.out.2.1.symm, E.out.2.2.symm, rfl, E.out.1.symm⟩, ((hbb.setCell (by simp) _).setCell (by simp) _).setCell (by simp) _⟩
      · go_enter Try.func32, Try.ntmps32
        go_wp2_with fail
        refine (rshow_any o t _).mono ?_
        rintro e w1 ⟨rfl, hb1⟩
        replace hb1 : Below (bx (bx w x y z) 0 0 0).heap.size (bx (bx w x y z) 0 0 0) w1 := hb1
        obtain ⟨⟨k0, k1, k2⟩, ⟨k3, k4, k5⟩, ⟨f3, f4, f5⟩, hz⟩ := bx2_cells hb1
        have hbb := hb0.trans (hb1.mono hb0.size)
        clear hb0 hb1
        rw [HS.out.1, HS.out.2]
        go_wp2_with fail
        refine (rtime_any _ _).mono ?_
        rintro e w2 ⟨rfl, rfl⟩
        rw [HD.out]
        go_wp2_with fail
        exact bodyPost_ret (v := .tuple #[.agg #[.int .i64 x, .int .i64 y, .int .i64 z], .int .i64 3]) (by simp [results, Try.results32, go_sem, k3, k4, k5]) rfl ⟨ret_clk ⟨E.out.2.1.symm, E.out.2.2.symm, rfl, E.out.1.symm⟩, ((hbb.setCell (by simp) _).setCell (by simp) _).setCell (by simp) _⟩

set_option maxHeartbeats 400000 in
theorem rset_any {x y z : Int} (o : Okc x y z) (t r : Int) (w : World) :
    Calls Try.prog 33 #[.agg #[.int .i64 x, .int .i64 y, .int .i64 z], .int .i64 t, .int .i64 r] w fun e w' =>
      e = .returned (.tuple #[.agg #[.int .i64 (srX x y z t r), .int .i64 (srY x y z t r), .int .i64 (srZ x y z t r)], .int .i64 (srE x y z t r)]) ∧ Below w.heap.size w w' := by
  have hb0 := (bx_below w x y z).trans ((bx_below (bx w x y z) 0 0 0).mono (bx_below w x y z).size)
  by_cases hr : rtB r = true
  · have h1 := rtB_true hr
    obtain ⟨r0, r1⟩ := h1
    have r0' : ¬ r < -100000 := by omega
    have r1' : ¬ 100000 < r := by omega
    rcases sh_two x y z t with ⟨c1, c2⟩ | ⟨c1, c2, v1, v2, t1, t2, t3⟩
    · obtain ⟨s, hs⟩ : ∃ s, shE x y z t = s := ⟨_, rfl⟩
      have hne : (s != 0) = true := by rw [hs] at c1; rcases c1 with rfl | rfl <;> decide
      have e1 : srE x y z t r = s := by rw [srE, hr, if_pos rfl, hs]
      have e2 : srX x y z t r = x := by rw [srX, e1, if_neg (by rw [← hs]; omega)]
      have e3 : srY x y z t r = y := by rw [srY, e1, if_neg (by rw [← hs]; omega)]
      have e4 : srZ x y z t r = z := by rw [srZ, e1, if_neg (by rw [← hs]; omega)]
      have E := Lib.hid (And.intro e1 (And.intro e2 (And.intro e3 e4)))
      have HS := Lib.hid (And.intro hs c2)
      clear c1 c2 hs e1 e2 e3 e4 hr
      go_enter Try.func33, Try.ntmps33
      go_wp2_with fail
      refine (rshow_any o t _).mono ?_
      rintro e w1 ⟨rfl, hb1⟩
      replace hb1 : Below (bx (bx w x y z) 0 0 0).heap.size (bx (bx w x y z) 0 0 0) w1 := hb1
      obtain ⟨⟨k0, k1, k2⟩, ⟨k3, k4, k5⟩, ⟨f3, f4, f5⟩, hz⟩ := bx2_cells hb1
      have hbb := hb0.trans (hb1.mono hb0.size)
      clear hb0 hb1
      rw [HS.out.1, HS.out.2]
      go_wp2_with fail
      exact bodyPost_ret (v := .tuple #[.agg #[.int .i64 x, .int .i64 y, .int .i64 z], .int .i64 s]) (by simp [results, Try.results33, go_sem, k3, k4, k5]) rfl ⟨ret_clk ⟨E.out.2.1.symm, E.out.2.2.1.symm, E.out.2.2.2.symm, E.out.1.symm⟩, ((hbb.setCell (by simp) _).setCell (by simp) _).setCell (by simp) _⟩
    · have e1 : srE x y z t r = 0 := by rw [srE, hr, if_pos rfl, c1]
      have e2 : srX x y z t r = t := by rw [srX, e1, if_pos rfl]
      have e3 : srY x y z t r = val x y z t := by rw [srY, e1, if_pos rfl]
      have e4 : srZ x y z t r = r := by rw [srZ, e1, if_pos rfl]
      have E := Lib.hid (And.intro e1 (And.intro e2 (And.intro e3 e4)))
      have HS := Lib.hid (And.intro c1 c2)
      clear c1 c2 e1 e2 e3 e4 hr
      go_enter Try.func33, Try.ntmps33
      go_wp2_with fail
      refine (rshow_any o t _).mono ?_
      rintro e w1 ⟨rfl, hb1⟩
      replace hb1 : Below (bx (bx w x y z) 0 0 0).heap.size (bx (bx w x y z) 0 0 0) w1 := hb1
      obtain ⟨⟨k0, k1, k2⟩, ⟨k3, k4, k5⟩, ⟨f3, f4, f5⟩, hz⟩ := bx2_cells hb1
      have hbb := hb0.trans (hb1.mono hb0.size)
      clear hb0 hb1
      rw [HS.out.1, HS.out.2]
      go_wp2_with fail
      exact bodyPost_ret (v := .tuple #[.agg #[.int .i64 t, .int .i64 (val x y z t), .int .i64 r], .int .i64 0]) (by simp [results, Try.results33, go_sem, k3, k4, k5]) rfl ⟨ret_clk ⟨E.out.2.1.symm, E.out.2.2.1.symm, E.out.2.2.2.symm, E.out.1.symm⟩, ((hbb.setCell (by simp) _).setCell (by simp) _).setCell (by simp) _⟩
  · have h1 := rtB_false (Bool.eq_false_iff.2 hr)
    have e1 : srE x y z t r = 2 := by rw [srE, if_neg hr]
    have e2 : srX x y z t r = x := by rw [srX, e1, if_neg (by decide)]
    have e3 : srY x y z t r = y := by rw [srY, e1, if_neg (by decide)]
    have e4 : srZ x y z t r = z := by rw [srZ, e1, if_neg (by decide)]
    have E := Lib.hid (And.intro e1 (And.intro e2 (And.intro e3 e4)))
    clear e1 e2 e3 e4 hr
    rcases h1 with h1 | h1
    · go_enter Try.func33, Try.ntmps33
      go_wp2_with fail
      exact bodyPost_ret (v := .tuple #[.agg #[.int .i64 x, .int .i64 y, .int .i64 z], .int .i64 2]) (by simp [results, Try.results33, go_sem]) rfl ⟨ret_clk ⟨E.out.2.1.symm, E.out.2.2.1.symm, E.out.2.2.2.symm, E.out.1.symm⟩, ((Below.refl _ _).alloc (Nat.le_refl _) _).alloc (by simp) _⟩
    · go_enter Try.func33, Try.ntmps33
      go_wp2_with fail
      exact bodyPost_ret (v := .tuple #[.agg #[.int .i64 x, .int .i64 y, .int .i64 z], .int .i64 2]) (by simp [results, Try.results33, go_sem]) rfl ⟨ret_clk ⟨E.out.2.1.symm, E.out.2.2.1.symm, E.out.2.2.2.symm, E.out.1.symm⟩, ((Below.refl _ _).alloc (Nat.le_refl _) _).alloc (by simp) _⟩

/-- The world of agrees at its loop: the reference's clock, and four times. -/
def agW (w : World) (x y z t : Int) : World := (bx w x y z).alloc (.cells #[.int .i64 t, .int .i64 x, .int .i64 (x + 999999), .int .i64 1099511627776] 3)
theorem agW_below (w : World) (x y z t : Int) : Below w.heap.size w (agW w x y z t) := (bx_below w x y z).alloc (bx_below w x y z).size _
theorem agW_cells {w w2 : World} {x y z t : Int} (hb : Below (agW w x y z t).heap.size (agW w x y z t) w2) :
    (w2.cell? ⟨w.heap.size, 0, none⟩ = some (.int .i64 x) ∧ w2.cell? ⟨w.heap.size, 1, none⟩ = some (.int .i64 y) ∧ w2.cell? ⟨w.heap.size, 2, none⟩ = some (.int .i64 z)) ∧ Row w2 (w.heap.size + 1) [t, x, x + 999999, 1099511627776] := by
  have h1 : Below (bx w x y z).heap.size (bx w x y z) (agW w x y z t) := (Below.refl _ _).alloc (Nat.le_refl _) _
  have h2 := row_new (bx w x y z) [t, x, x + 999999, 1099511627776] 3
  rw [bx_size] at h2
  exact ⟨bx_cells (h1.trans (hb.mono h1.size)), h2.below hb⟩

set_option maxRecDepth 100000 in
set_option maxHeartbeats 1000000 in
theorem agrees_any {w : World} {b : Nat} {x y z : Int} (h : Clk w b x y z) (o : Okc x y z) (t : Int) :
    Calls Try.prog 13 #[.pointer (some ⟨b, 0, none⟩), .agg #[.int .i64 x, .int .i64 y, .int .i64 z], .int .i64 t] w fun e w' => e = .returned (.bool true) ∧ Below w.heap.size w w' := by
  have hx : IntKind.i64.wrap (x + 999999) = x + 999999 := IntWalk.i64_in _ (by have := o.a0; have := o.a1; omega)
  have ha0 := o.a0
  have ha1 := o.a1
  have hb0 := agW_below w x y z t
  have h0 := h.below hb0
  clear hx
  go_enter Try.func13, Try.ntmps13
  go_wp2_with fail
  go_loopw [23] (fun v wr => ∃ k : Nat, v = .int .i64 k ∧ k ≤ 4 ∧ Below (agW w x y z t).heap.size (agW w x y z t) wr) (fun v _ => 4 - (intOf v).toNat)
  case atStart => exact ⟨0, rfl, by omega, Below.refl _ _⟩
  case round =>
    obtain ⟨k, rfl, hk, hb⟩ := hrel
    have hall := hb0.trans (hb.mono hb0.size)
    by_cases hlt : k < 4
    · obtain ⟨_, hrow⟩ := agW_cells hb
      have hc := hrow.2 k hlt
      generalize [t, x, x + 999999, 1099511627776].getD k 0 = u at hc
      have h1 := h0.below hb
      clear hrow
      go_wp2_with fail
      refine (show_any h1 o u).mono ?_
      rintro e w1 ⟨rfl, hb1⟩
      have hb2 := hb.trans (hb1.mono hb.size)
      obtain ⟨⟨k0, k1, k2⟩, _⟩ := agW_cells hb2
      go_wp2_with fail
      refine (rshow_any o u _).mono ?_
      rintro e w2 ⟨rfl, hb3⟩
      have hb4 := hb2.trans (hb3.mono hb2.size)
      clear k0 k1 k2 hc
      go_wp2_with fail
      refine (dev_any (h0.below hb4) o u).mono ?_
      rintro e w3 ⟨rfl, hb5⟩
      have hb6 := hb4.trans (hb5.mono hb4.size)
      clear hb hb1 hb2 hb3 hb4 hb5 h1 hall
      rcases sh_two x y z u with ⟨c1, c2⟩ | ⟨c1, c2, v1, v2, t1, t2, t3⟩
      · obtain ⟨s, hs⟩ : ∃ s, shE x y z u = s := ⟨_, rfl⟩
        have hne : (s != 0) = true := by rw [hs] at c1; rcases c1 with rfl | rfl <;> decide
        rw [if_neg (by omega), c2, hs]
        clear c1 c2 hs
        go_wp2_with fail
        exact ⟨⟨k + 1, by go_num, by omega, hb6⟩, by simp [intOf]; omega⟩
      · rw [if_pos c1, c2, c1]
        clear c1 c2
        go_wp2_with fail
        exact ⟨⟨k + 1, by go_num, by omega, hb6⟩, by simp [intOf]; omega⟩
    · go_wp2_with fail
      go_ret
      exact ⟨rfl, hall⟩
end Go.Proofs.Ytjdefiiinameiaa
