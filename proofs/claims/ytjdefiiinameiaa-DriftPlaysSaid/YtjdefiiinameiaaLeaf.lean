/- The leaf functions of the drift package: what each call computes, in plain integers. -/
import Derived.Test.YtjdefiiinameiaaRows
import Derived.WalkKit
import Derived.WalkSpells
import Derived.WalkLawsBesides
import Derived.Lib.Hide
import Derived.Deep.QuietTactic
import Derived.BigQuiet
import Derived.Handy
namespace Go.Proofs.Ytjdefiiinameiaa
open Go.RowKit

theorem ret_int {k : IntKind} {a b : Int} (h : a = b) : Ending.returned (.int k a) = .returned (.int k b) := by rw [h]

theorem tdiv_neg (x : Int) (h : x < 0) : x.tdiv 1000000 = if x.tmod 1000000 < 0 then x / 1000000 + 1 else x / 1000000 := by
  obtain ⟨n, rfl⟩ : ∃ n : Int, x = -n := ⟨-x, by omega⟩
  rw [Int.neg_tdiv, Int.neg_tmod, Int.tdiv_eq_ediv_of_nonneg (by omega), Int.tmod_eq_emod_of_nonneg (by omega)]
  split <;> omega

set_option maxHeartbeats 400000 in
theorem floor_any (x : Int) (w : World) (h1 : -9000000000000000000 ≤ x) (h2 : x ≤ 9000000000000000000) :
    Calls Try.prog 35 #[.int .i64 x, .int .i64 1000000] w fun e w' => e = .returned (.int .i64 (x / 1000000)) ∧ w = w' := by
  by_cases h0 : 0 ≤ x
  · have hm : ¬ x % 1000000 < 0 := by omega
    go_enter Try.func35, Try.ntmps35
    go_wp2
    go_ret
    exact ⟨rfl, rfl⟩
  · have hq := tdiv_neg x (by omega)
    by_cases hm : x.tmod 1000000 < 0
    · rw [if_pos hm] at hq
      have hb1 : -9000000000001 ≤ x.tdiv 1000000 := by omega
      have hb2 : x.tdiv 1000000 ≤ 9000000000001 := by omega
      have HQ := Lib.hid hq
      clear hq
      go_enter Try.func35, Try.ntmps35
      go_wp2
      go_ret
      exact ⟨ret_int (by rw [HQ.out]; omega), rfl⟩
    · rw [if_neg hm] at hq
      have HQ := Lib.hid hq
      clear hq
      go_enter Try.func35, Try.ntmps35
      go_wp2
      go_ret
      exact ⟨ret_int (by rw [HQ.out]), rfl⟩

/-- A time is from 0 to 2^40. -/
def tmB (t : Int) : Bool := decide (0 ≤ t) && decide (t ≤ 1099511627776)
theorem tmB_true {t : Int} (h : tmB t = true) : 0 ≤ t ∧ t ≤ 1099511627776 := by simpa [tmB] using h
theorem tmB_false {t : Int} (h : tmB t = false) : t < 0 ∨ 1099511627776 < t := by
  simp only [tmB, Bool.and_eq_false_iff, decide_eq_false_iff_not] at h; omega
theorem tmB_mk {t : Int} (h : 0 ≤ t ∧ t ≤ 1099511627776) : tmB t = true := by simpa [tmB] using h
theorem tmB_no {t : Int} (h : t < 0 ∨ 1099511627776 < t) : tmB t = false := by
  simp only [tmB, Bool.and_eq_false_iff, decide_eq_false_iff_not]; omega
/-- A rate is from -100000 to 100000. -/
def rtB (t : Int) : Bool := decide (-100000 ≤ t) && decide (t ≤ 100000)
theorem rtB_true {t : Int} (h : rtB t = true) : -100000 ≤ t ∧ t ≤ 100000 := by simpa [rtB] using h
theorem rtB_mk {t : Int} (h : -100000 ≤ t ∧ t ≤ 100000) : rtB t = true := by simpa [rtB] using h
theorem rtB_false {t : Int} (h : rtB t = false) : t < -100000 ∨ 100000 < t := by
  simp only [rtB, Bool.and_eq_false_iff, decide_eq_false_iff_not] at h; omega
theorem rtB_no {t : Int} (h : t < -100000 ∨ 100000 < t) : rtB t = false := by
  simp only [rtB, Bool.and_eq_false_iff, decide_eq_false_iff_not]; omega

set_option maxHeartbeats 400000 in
theorem rates_any (r : Int) (w : World) : Calls Try.prog 23 #[.int .i64 r] w fun e w' => e = .returned (.bool (rtB r)) ∧ w = w' := by
  by_cases h1 : -100000 ≤ r
  · by_cases h2 : r ≤ 100000
    · rw [rtB_mk ⟨h1, h2⟩]
      go_enter Try.func23, Try.ntmps23
      go_wp2
      go_ret
      exact ⟨rfl, rfl⟩
    · rw [rtB_no (by omega)]
      go_enter Try.func23, Try.ntmps23
      go_wp2
      go_ret
      exact ⟨rfl, rfl⟩
  · rw [rtB_no (by omega)]
    go_enter Try.func23, Try.ntmps23
    go_wp2
    go_ret
    exact ⟨rfl, rfl⟩

set_option maxHeartbeats 400000 in
theorem rtime_any (r : Int) (w : World) : Calls Try.prog 24 #[.int .i64 r] w fun e w' => e = .returned (.bool (tmB r)) ∧ w = w' := by
  by_cases h1 : 0 ≤ r
  · by_cases h2 : r ≤ 1099511627776
    · rw [tmB_mk ⟨h1, h2⟩]
      go_enter Try.func24, Try.ntmps24
      go_wp2
      go_ret
      exact ⟨rfl, rfl⟩
    · rw [tmB_no (by omega)]
      go_enter Try.func24, Try.ntmps24
      go_wp2
      go_ret
      exact ⟨rfl, rfl⟩
  · rw [tmB_no (by omega)]
    go_enter Try.func24, Try.ntmps24
    go_wp2
    go_ret
    exact ⟨rfl, rfl⟩

set_option maxHeartbeats 400000 in
theorem times1_any (b : Nat) (t : Int) (w : World) (hc : w.cell? ⟨b, 0, none⟩ = some (.int .i64 t)) :
    Calls Try.prog 22 #[.slice (some ⟨b, 0, none⟩) 1 1] w fun e w' => e = .returned (.bool (tmB t)) ∧ w = w' := by
  by_cases h1 : 0 ≤ t
  · by_cases h2 : t ≤ 1099511627776
    · rw [tmB_mk ⟨h1, h2⟩]
      go_enter Try.func22, Try.ntmps22
      go_wp2
      go_rounds 2
      go_ret
      exact ⟨rfl, rfl⟩
    · rw [tmB_no (by omega)]
      go_enter Try.func22, Try.ntmps22
      go_wp2
      go_rounds 2
      go_ret
      exact ⟨rfl, rfl⟩
  · rw [tmB_no (by omega)]
    go_enter Try.func22, Try.ntmps22
    go_wp2
    go_rounds 2
    go_ret
    exact ⟨rfl, rfl⟩

set_option maxHeartbeats 400000 in
theorem times2_any (b : Nat) (t u : Int) (w : World) (hc : w.cell? ⟨b, 0, none⟩ = some (.int .i64 t)) (hd : w.cell? ⟨b, 1, none⟩ = some (.int .i64 u)) :
    Calls Try.prog 22 #[.slice (some ⟨b, 0, none⟩) 2 2] w fun e w' => e = .returned (.bool (tmB t && tmB u)) ∧ w = w' := by
  by_cases h1 : 0 ≤ t
  · by_cases h2 : t ≤ 1099511627776
    · rw [tmB_mk ⟨h1, h2⟩, Bool.true_and]
      by_cases h3 : 0 ≤ u
      · by_cases h4 : u ≤ 1099511627776
        · rw [tmB_mk ⟨h3, h4⟩]
          go_enter Try.func22, Try.ntmps22
          go_wp2
          go_rounds 3
          go_ret
          exact ⟨rfl, rfl⟩
        · rw [tmB_no (by omega)]
          go_enter Try.func22, Try.ntmps22
          go_wp2
          go_rounds 3
          go_ret
          exact ⟨rfl, rfl⟩
      · rw [tmB_no (by omega)]
        go_enter Try.func22, Try.ntmps22
        go_wp2
        go_rounds 3
        go_ret
        exact ⟨rfl, rfl⟩
    · rw [tmB_no (by omega), Bool.false_and]
      go_enter Try.func22, Try.ntmps22
      go_wp2
      go_rounds 3
      go_ret
      exact ⟨rfl, rfl⟩
  · rw [tmB_no (by omega), Bool.false_and]
    go_enter Try.func22, Try.ntmps22
    go_wp2
    go_rounds 3
    go_ret
    exact ⟨rfl, rfl⟩

theorem times1_new (t : Int) (w : World) :
    Calls Try.prog 22 #[.slice (some ⟨w.heap.size, 0, none⟩) 1 1] (w.alloc (.cells #[.int .i64 t] 3)) fun e w' => e = .returned (.bool (tmB t)) ∧ w.alloc (.cells #[.int .i64 t] 3) = w' :=
  times1_any _ t _ (by simp)
theorem times2_new (t u : Int) (w : World) :
    Calls Try.prog 22 #[.slice (some ⟨w.heap.size, 0, none⟩) 2 2] (w.alloc (.cells #[.int .i64 t, .int .i64 u] 3)) fun e w' => e = .returned (.bool (tmB t && tmB u)) ∧ w.alloc (.cells #[.int .i64 t, .int .i64 u] 3) = w' :=
  times2_any _ t u _ (by simp) (by simp)

/-- A clock lies in block b. -/
structure Clk (w : World) (b : Nat) (at_ sh rt : Int) : Prop where
  c0 : w.cell? ⟨b, 0, none⟩ = some (.int .i64 at_)
  c1 : w.cell? ⟨b, 1, none⟩ = some (.int .i64 sh)
  c2 : w.cell? ⟨b, 2, none⟩ = some (.int .i64 rt)
  c3 : w.cell? ⟨b, 3, none⟩ = some (.bool true)
  f0 : w.frozen? ⟨b, 0, none⟩ = false
  f1 : w.frozen? ⟨b, 1, none⟩ = false
  f2 : w.frozen? ⟨b, 2, none⟩ = false
  lt : b < w.heap.size
/-- A clock's numbers are in range. -/
structure Okc (at_ sh rt : Int) : Prop where
  a0 : 0 ≤ at_
  a1 : at_ ≤ 1099511627776
  s0 : 0 ≤ sh
  s1 : sh ≤ 1099511627776
  r0 : -100000 ≤ rt
  r1 : rt ≤ 100000

theorem Clk.below {w w' : World} {b : Nat} {x y z : Int} (h : Clk w b x y z) (hb : Below w.heap.size w w') : Clk w' b x y z := by
  have hl := h.lt
  refine ⟨?_, ?_, ?_, ?_, ?_, ?_, ?_, Nat.lt_of_lt_of_le hl hb.size⟩
  · rw [hb.cell hl]; exact h.c0
  · rw [hb.cell hl]; exact h.c1
  · rw [hb.cell hl]; exact h.c2
  · rw [hb.cell hl]; exact h.c3
  · rw [hb.frozen hl]; exact h.f0
  · rw [hb.frozen hl]; exact h.f1
  · rw [hb.frozen hl]; exact h.f2

set_option maxHeartbeats 400000 in
theorem none_clk {w : World} {b : Nat} {x y z : Int} (h : Clk w b x y z) :
    Calls Try.prog 26 #[.pointer (some ⟨b, 0, none⟩)] w fun e w' => e = .returned (.bool false) ∧ w = w' := by
  have h3 := h.c3
  clear h
  go_enter Try.func26, Try.ntmps26
  go_wp2
  go_ret
  exact ⟨rfl, rfl⟩

set_option maxHeartbeats 400000 in
theorem none_nil {w : World} :
    Calls Try.prog 26 #[.pointer none] w fun e w' => e = .returned (.bool true) ∧ w = w' := by
  go_enter Try.func26, Try.ntmps26
  go_wp2
  go_ret
  exact ⟨rfl, rfl⟩

set_option maxHeartbeats 400000 in
theorem none_zero {w : World} {b : Nat} (h3 : w.cell? ⟨b, 3, none⟩ = some (.bool false)) :
    Calls Try.prog 26 #[.pointer (some ⟨b, 0, none⟩)] w fun e w' => e = .returned (.bool true) ∧ w = w' := by
  go_enter Try.func26, Try.ntmps26
  go_wp2
  go_ret
  exact ⟨rfl, rfl⟩

/-- The time that is shown. -/
def val (x y z t : Int) : Int := y + t - x + (t - x) * z / 1000000

theorem prod_bd {d z : Int} (d0 : -1099511627776 ≤ d) (d1 : d ≤ 1099512627776) (z0 : -100000 ≤ z) (z1 : z ≤ 100000) : -109951262777600000 ≤ d * z ∧ d * z ≤ 109951262777600000 := by
  have h1 : d.natAbs ≤ 1099512627776 := by omega
  have h2 : z.natAbs ≤ 100000 := by omega
  have h3 : (d * z).natAbs ≤ 1099512627776 * 100000 := by rw [Int.natAbs_mul]; exact Nat.mul_le_mul h1 h2
  omega

theorem floor_q (x : Int) (w : World) (h1 : -9000000000000000000 ≤ x) (h2 : x ≤ 9000000000000000000) :
    Calls Try.prog 35 #[.int .i64 x, .int .i64 1000000] w fun e w' => e = .returned (.int .i64 (x / 1000000)) ∧ w' = w :=
  (floor_any x w h1 h2).mono fun _ _ h => ⟨h.1, h.2.symm⟩

set_option maxHeartbeats 400000 in
theorem value_any {w : World} {b : Nat} {x y z : Int} (h : Clk w b x y z) (o : Okc x y z) (t : Int) (t0 : 0 ≤ t) (t1 : t ≤ 1099511627776) :
    Calls Try.prog 29 #[.pointer (some ⟨b, 0, none⟩), .int .i64 t] w fun e w' => e = .returned (.int .i64 (val x y z t)) ∧ Below w.heap.size w w' := by
  obtain ⟨c0, c1, c2, c3, f0, f1, f2, lt⟩ := h
  obtain ⟨a0, a1, s0, s1, r0, r1⟩ := o
  have hp := prod_bd (d := t - x) (z := z) (by omega) (by omega) r0 r1
  obtain ⟨p0, p1⟩ := hp
  have p0' : -9000000000000000000 ≤ (t - x) * z := by omega
  have p1' : (t - x) * z ≤ 9000000000000000000 := by omega
  clear c3 f0 f1 f2 lt
  have g1 : IntKind.i64.wrap (y + t) = y + t := IntWalk.i64_in _ (by omega)
  have g2 : IntKind.i64.wrap (y + t - x) = y + t - x := IntWalk.i64_in _ (by omega)
  have g3 : IntKind.i64.wrap (t - x) = t - x := IntWalk.i64_in _ (by omega)
  have g4 : IntKind.i64.wrap ((t - x) * z) = (t - x) * z := IntWalk.i64_in _ (by omega)
  have g5 : IntKind.i64.wrap (y + t - x + (t - x) * z / 1000000) = y + t - x + (t - x) * z / 1000000 := IntWalk.i64_in _ (by omega)
  go_enter Try.func29, Try.ntmps29
  go_wp2_with fail
  go_quiet ((go_at_call 35; exact Calls.quiet_of_same (floor_q _ _ p0' p1')))
  clear g1 g2 g3 g4 g5
  go_wp2
  go_ret
  exact ⟨rfl, below_drewN (Below.refl _ _) _⟩
end Go.Proofs.Ytjdefiiinameiaa
