/- New, Copy, Step, SetRate of the program. -/
import Derived.Test.YtjdefiiinameiaaRef
namespace Go.Proofs.Ytjdefiiinameiaa
open Go.RowKit

/-- New gives a clock in a block of its own. -/
def NewQ (x y z : Int) (w : World) (e : Ending) (w' : World) : Prop :=
  ∃ b : Nat, e = .returned (.tuple #[.pointer (some ⟨b, 0, none⟩), .int .i64 0]) ∧ w.heap.size ≤ b ∧ Clk w' b x y z ∧ Below w.heap.size w w'

theorem clk_new (w : World) (x y z : Int) : Clk (w.alloc (.cells #[.int .i64 x, .int .i64 y, .int .i64 z, .bool true] 54)) w.heap.size x y z := by
  refine ⟨?_, ?_, ?_, ?_, ?_, ?_, ?_, ?_⟩ <;> simp

set_option maxHeartbeats 400000 in
theorem new_ok {x y z : Int} (o : Okc x y z) (w : World) :
    Calls Try.prog 8 #[.int .i64 x, .int .i64 y, .int .i64 z] w (NewQ x y z w) := by
  obtain ⟨a0, a1, s0, s1, r0, r1⟩ := o
  have H1 := Lib.hid (tmB_mk ⟨a0, a1⟩)
  have H2 := Lib.hid (tmB_mk ⟨s0, s1⟩)
  have H3 := Lib.hid (rtB_mk ⟨r0, r1⟩)
  have hb0 : Below w.heap.size w (w.alloc (.cells #[.int .i64 x, .int .i64 y] 3)) := (Below.refl _ _).alloc (Nat.le_refl _) _
  go_enter Try.func8, Try.ntmps8
  go_wp2_with fail
  refine (times2_new _ _ _).mono ?_
  rintro e w1 ⟨rfl, rfl⟩
  rw [H1.out, H2.out]
  go_wp2_with fail
  refine (rates_any _ _).mono ?_
  rintro e w1 ⟨rfl, rfl⟩
  rw [H3.out]
  go_wp2_with fail
  go_ret2
  refine ⟨w.heap.size + 1, rfl, by omega, ?_, hb0.alloc (by simp) _⟩
  have := clk_new (w.alloc (.cells #[.int .i64 x, .int .i64 y] 3)) x y z
  simpa using this

set_option maxHeartbeats 400000 in
theorem new_no {x y z : Int} (o : okB x y z = false) (w : World) :
    Calls Try.prog 8 #[.int .i64 x, .int .i64 y, .int .i64 z] w fun e w' => e = .returned (.tuple #[.pointer none, .int .i64 2]) ∧ Below w.heap.size w w' := by
  have hb0 : Below w.heap.size w (w.alloc (.cells #[.int .i64 x, .int .i64 y] 3)) := (Below.refl _ _).alloc (Nat.le_refl _) _
  by_cases h1 : (tmB x && tmB y) = true
  · have h3 : rtB z = false := by simpa [okB, h1] using o
    have H1 := Lib.hid h1
    have H3 := Lib.hid h3
    clear h1 h3 o
    go_enter Try.func8, Try.ntmps8
    go_wp2_with fail
    refine (times2_new _ _ _).mono ?_
    rintro e w1 ⟨rfl, rfl⟩
    rw [H1.out]
    go_wp2_with fail
    refine (rates_any _ _).mono ?_
    rintro e w1 ⟨rfl, rfl⟩
    rw [H3.out]
    go_wp2_with fail
    go_ret2
    exact ⟨rfl, hb0⟩
  · have H1 := Lib.hid (Bool.eq_false_iff.2 h1)
    clear h1 o
    go_enter Try.func8, Try.ntmps8
    go_wp2_with fail
    refine (times2_new _ _ _).mono ?_
    rintro e w1 ⟨rfl, rfl⟩
    rw [H1.out]
    go_wp2_with fail
    go_ret2
    exact ⟨rfl, hb0⟩

set_option maxHeartbeats 400000 in
theorem copy_any {w : World} {b : Nat} {x y z : Int} (h : Clk w b x y z) :
    Calls Try.prog 16 #[.pointer (some ⟨b, 0, none⟩)] w fun e w' => e = .returned (.pointer (some ⟨w.heap.size, 0, none⟩)) ∧ w.alloc (.cells #[.int .i64 x, .int .i64 y, .int .i64 z, .bool true] 54) = w' := by
  have hn := none_clk h
  obtain ⟨c0, c1, c2, c3, f0, f1, f2, lt⟩ := h
  clear f0 f1 f2
  go_enter Try.func16, Try.ntmps16
  go_wp2_with fail
  refine hn.mono ?_
  rintro e w1 ⟨rfl, rfl⟩
  go_wp2_with fail
  go_ret
  exact ⟨rfl, rfl⟩
theorem copy_nil {w : World} : Calls Try.prog 16 #[.pointer none] w fun e w' => e = .returned (.pointer none) ∧ w = w' := by
  go_enter Try.func16, Try.ntmps16
  go_wp2_with fail
  refine none_nil.mono ?_
  rintro e w1 ⟨rfl, rfl⟩
  go_wp2_with fail
  go_ret
  exact ⟨rfl, rfl⟩
theorem copy_zero {w : World} {b : Nat} (h3 : w.cell? ⟨b, 3, none⟩ = some (.bool false)) : Calls Try.prog 16 #[.pointer (some ⟨b, 0, none⟩)] w fun e w' => e = .returned (.pointer none) ∧ w = w' := by
  have hn := none_zero h3
  go_enter Try.func16, Try.ntmps16
  go_wp2_with fail
  refine hn.mono ?_
  rintro e w1 ⟨rfl, rfl⟩
  go_wp2_with fail
  go_ret
  exact ⟨rfl, rfl⟩
end Go.Proofs.Ytjdefiiinameiaa
