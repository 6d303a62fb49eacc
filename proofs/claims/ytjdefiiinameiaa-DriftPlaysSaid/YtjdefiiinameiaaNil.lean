/- The methods of a nil or zero clock; Within. -/
import Derived.Test.YtjdefiiinameiaaKnown
namespace Go.Proofs.Ytjdefiiinameiaa
open Go.RowKit

/-- A nil clock, or a zero one. -/
def Nil (w : World) (a : Option Addr) : Prop := a = none ∨ ∃ b : Nat, a = some ⟨b, 0, none⟩ ∧ b < w.heap.size ∧ w.cell? ⟨b, 3, none⟩ = some (.bool false)
theorem Nil.below {w w' : World} {a : Option Addr} (h : Nil w a) (hb : Below w.heap.size w w') : Nil w' a := by
  rcases h with h | ⟨b, h1, h2, h3⟩
  · exact .inl h
  · exact .inr ⟨b, h1, Nat.lt_of_lt_of_le h2 hb.size, by rw [hb.cell h2]; exact h3⟩
theorem nil_none {w : World} {a : Option Addr} (h : Nil w a) : Calls Try.prog 26 #[.pointer a] w fun e w' => e = .returned (.bool true) ∧ w = w' := by
  rcases h with rfl | ⟨b, rfl, _, h3⟩
  · exact none_nil
  · exact none_zero h3
theorem nil_copy {w : World} {a : Option Addr} (h : Nil w a) : Calls Try.prog 16 #[.pointer a] w fun e w' => e = .returned (.pointer none) ∧ w = w' := by
  rcases h with rfl | ⟨b, rfl, _, h3⟩
  · exact copy_nil
  · exact copy_zero h3

set_option maxHeartbeats 400000 in
theorem nil_allowed {w : World} {a : Option Addr} (h : Nil w a) (t : Int) :
    Calls Try.prog 27 #[.pointer a, .int .i64 t] w fun e w' => e = .returned (.int .i64 1) ∧ w = w' := by
  have hn := nil_none h
  go_enter Try.func27, Try.ntmps27
  go_wp2_with fail
  refine hn.mono ?_
  rintro e w1 ⟨rfl, rfl⟩
  go_wp2_with fail
  go_ret
  exact ⟨rfl, rfl⟩
set_option maxHeartbeats 400000 in
theorem nil_show {w : World} {a : Option Addr} (h : Nil w a) (t : Int) :
    Calls Try.prog 15 #[.pointer a, .int .i64 t] w fun e w' => e = .returned (.tuple #[.int .i64 0, .int .i64 1]) ∧ w = w' := by
  have hn := nil_allowed h t
  go_enter Try.func15, Try.ntmps15
  go_wp2_with fail
  refine hn.mono ?_
  rintro e w1 ⟨rfl, rfl⟩
  go_wp2_with fail
  go_ret2
  exact ⟨rfl, rfl⟩
set_option maxHeartbeats 400000 in
theorem nil_dev {w : World} {a : Option Addr} (h : Nil w a) (t : Int) :
    Calls Try.prog 18 #[.pointer a, .int .i64 t] w fun e w' => e = .returned (.tuple #[.int .i64 0, .int .i64 1]) ∧ w = w' := by
  have hn := nil_show h t
  go_enter Try.func18, Try.ntmps18
  go_wp2_with fail
  refine hn.mono ?_
  rintro e w1 ⟨rfl, rfl⟩
  go_wp2_with fail
  go_ret2
  exact ⟨rfl, rfl⟩
set_option maxHeartbeats 400000 in
theorem nil_step {w : World} {a : Option Addr} (h : Nil w a) (t d : Int) :
    Calls Try.prog 21 #[.pointer a, .int .i64 t, .int .i64 d] w fun e w' => e = .returned (.int .i64 1) ∧ w = w' := by
  have hn := nil_show h t
  go_enter Try.func21, Try.ntmps21
  go_wp2_with fail
  refine hn.mono ?_
  rintro e w1 ⟨rfl, rfl⟩
  go_wp2_with fail
  go_ret
  exact ⟨rfl, rfl⟩
set_option maxHeartbeats 400000 in
theorem nil_set {w : World} {a : Option Addr} (h : Nil w a) (t d : Int) :
    Calls Try.prog 17 #[.pointer a, .int .i64 t, .int .i64 d] w fun e w' => e = .returned (.int .i64 1) ∧ w = w' := by
  have hn := nil_show h t
  have hn0 := nil_none h
  go_enter Try.func17, Try.ntmps17
  go_wp2_with fail
  refine hn0.mono ?_
  rintro e w1 ⟨rfl, rfl⟩
  go_wp2_with fail
  refine hn.mono ?_
  rintro e w1 ⟨rfl, rfl⟩
  go_wp2_with fail
  go_ret
  exact ⟨rfl, rfl⟩
set_option maxHeartbeats 400000 in
theorem nil_exc {w : World} {a : Option Addr} (h : Nil w a) (t k : Int) :
    Calls Try.prog 11 #[.pointer a, .int .i64 t, .int .i64 k] w fun e w' => e = .returned (.tuple #[.int .i64 0, .int .i64 1]) ∧ Below w.heap.size w w' := by
  have hb0 : Below w.heap.size w ((w.alloc (.cells #[.pointer a] 22)).alloc (.cells #[.int .i64 k] 3)) := ((Below.refl _ _).alloc (Nat.le_refl _) _).alloc (by simp) _
  have hn0 := nil_none (h.below hb0)
  have hn := nil_allowed (h.below hb0) t
  go_enter Try.func11, Try.ntmps11
  go_wp2_with fail
  refine hn0.mono ?_
  rintro e w1 ⟨rfl, rfl⟩
  go_wp2_with fail
  refine hn.mono ?_
  rintro e w1 ⟨rfl, rfl⟩
  go_wp2_with fail
  go_ret2
  exact ⟨rfl, hb0⟩
set_option maxHeartbeats 400000 in
theorem nil_within {w : World} {a : Option Addr} (h : Nil w a) (d : Option Addr) (t k : Int) :
    Calls Try.prog 19 #[.pointer a, .pointer d, .int .i64 t, .int .i64 k] w fun e w' => e = .returned (.tuple #[.bool false, .int .i64 1]) ∧ w = w' := by
  have hn0 := nil_none h
  go_enter Try.func19, Try.ntmps19
  go_wp2_with fail
  refine hn0.mono ?_
  rintro e w1 ⟨rfl, rfl⟩
  go_wp2_with fail
  go_ret2
  exact ⟨rfl, rfl⟩
set_option maxHeartbeats 400000 in
theorem within_nil {w : World} {b : Nat} {x y z : Int} (h : Clk w b x y z) {d : Option Addr} (hd : Nil w d) (t k : Int) :
    Calls Try.prog 19 #[.pointer (some ⟨b, 0, none⟩), .pointer d, .int .i64 t, .int .i64 k] w fun e w' => e = .returned (.tuple #[.bool false, .int .i64 2]) ∧ w = w' := by
  have hn0 := none_clk h
  have hn := nil_none hd
  go_enter Try.func19, Try.ntmps19
  go_wp2_with fail
  refine hn0.mono ?_
  rintro e w1 ⟨rfl, rfl⟩
  go_wp2_with fail
  refine hn.mono ?_
  rintro e w1 ⟨rfl, rfl⟩
  go_wp2_with fail
  go_ret2
  exact ⟨rfl, rfl⟩
set_option maxHeartbeats 400000 in
theorem within_arg {w : World} {b c : Nat} {x y z x' y' z' : Int} (h : Clk w b x y z) (h' : Clk w c x' y' z') (t k : Int) (hk : k < 0) :
    Calls Try.prog 19 #[.pointer (some ⟨b, 0, none⟩), .pointer (some ⟨c, 0, none⟩), .int .i64 t, .int .i64 k] w fun e w' => e = .returned (.tuple #[.bool false, .int .i64 2]) ∧ w = w' := by
  have hn0 := none_clk h
  have hn := none_clk h'
  go_enter Try.func19, Try.ntmps19
  go_wp2_with fail
  refine hn0.mono ?_
  rintro e w1 ⟨rfl, rfl⟩
  go_wp2_with fail
  refine hn.mono ?_
  rintro e w1 ⟨rfl, rfl⟩
  go_wp2_with fail
  go_ret2
  exact ⟨rfl, rfl⟩

/-- What Within answers of two clocks: whether, and the code. -/
def wiE (x y z x' y' z' t : Int) : Int := if shE x y z t = 0 then shE x' y' z' t else shE x y z t
def wiB (x y z x' y' z' t k : Int) : Bool := decide (shE x y z t = 0) && decide (shE x' y' z' t = 0) && decide (val x y z t - val x' y' z' t ≤ k) && decide (val x' y' z' t - val x y z t ≤ k)
theorem ret2_bool {a b : Bool} {n : Int} (h : a = b) : Ending.returned (.tuple #[.bool a, .int .i64 n]) = .returned (.tuple #[.bool b, .int .i64 n]) := by rw [h]

theorem sh_two (x y z t : Int) : ((shE x y z t = 3 ∨ shE x y z t = 8) ∧ shV x y z t = 0) ∨ (shE x y z t = 0 ∧ shV x y z t = val x y z t ∧ 0 ≤ val x y z t ∧ val x y z t ≤ 1099511627776 ∧ 0 ≤ t ∧ t ≤ 1099511627776 ∧ x ≤ t) := by
  rcases sh_cases x y z t with ⟨c1, c2, c3, c4⟩ | ⟨c1, c2, c3, c4, c5⟩ | ⟨c1, c2, c3, c4, c5, c6⟩ | ⟨c1, c2, c3, c4, c5, c6⟩
  · exact .inl ⟨.inl c3, c4⟩
  · exact .inl ⟨.inr c4, c5⟩
  · exact .inl ⟨.inl c5, c6⟩
  · have a := tmB_true c1
    have b := tmB_true c3
    exact .inr ⟨c5, c6, b.1, b.2, a.1, a.2, by omega⟩

set_option maxHeartbeats 400000 in
theorem within_any {w : World} {b c : Nat} {x y z x' y' z' : Int} (h : Clk w b x y z) (o : Okc x y z) (h' : Clk w c x' y' z') (o' : Okc x' y' z') (t k : Int) (hk : 0 ≤ k) :
    Calls Try.prog 19 #[.pointer (some ⟨b, 0, none⟩), .pointer (some ⟨c, 0, none⟩), .int .i64 t, .int .i64 k] w fun e w' => e = .returned (.tuple #[.bool (wiB x y z x' y' z' t k), .int .i64 (wiE x y z x' y' z' t)]) ∧ Below w.heap.size w w' := by
  have hn0 := none_clk h
  have hn := none_clk h'
  have hs := show_any h o t
  rcases sh_two x y z t with ⟨c1, c2⟩ | ⟨c1, c2, v1, v2, t1, t2, t3⟩
  · obtain ⟨s, hsE⟩ : ∃ s, shE x y z t = s := ⟨_, rfl⟩
    have hne : (s != 0) = true := by rw [hsE] at c1; rcases c1 with rfl | rfl <;> decide
    have hw1 : wiB x y z x' y' z' t k = false := by
      have : ¬ shE x y z t = 0 := by omega
      simp [wiB, this]
    have hw2 : wiE x y z x' y' z' t = s := by rw [wiE, if_neg (by omega), hsE]
    rw [hw1, hw2]
    rw [c2, hsE] at hs
    clear c1 c2 hw1 hw2 hsE
    go_enter Try.func19, Try.ntmps19
    go_wp2_with fail
    refine hn0.mono ?_
    rintro e w1 ⟨rfl, rfl⟩
    go_wp2_with fail
    refine hn.mono ?_
    rintro e w1 ⟨rfl, rfl⟩
    go_wp2_with fail
    refine hs.mono ?_
    rintro e w1 ⟨rfl, hb⟩
    go_wp2_with fail
    go_ret2
    exact ⟨rfl, hb⟩
  · rw [c1, c2] at hs
    rcases sh_two x' y' z' t with ⟨d1, d2⟩ | ⟨d1, d2, u1, u2, q1, q2, q3⟩
    · obtain ⟨s, hsE⟩ : ∃ s, shE x' y' z' t = s := ⟨_, rfl⟩
      have hne : (s != 0) = true := by rw [hsE] at d1; rcases d1 with rfl | rfl <;> decide
      have hw1 : wiB x y z x' y' z' t k = false := by
        have : ¬ shE x' y' z' t = 0 := by omega
        simp [wiB, this]
      have hw2 : wiE x y z x' y' z' t = s := by rw [wiE, if_pos c1, hsE]
      rw [hw1, hw2]
      have hS : ∀ w1, Below w.heap.size w w1 → Calls Try.prog 15 #[.pointer (some ⟨c, 0, none⟩), .int .i64 t] w1 fun e w' => e = .returned (.tuple #[.int .i64 0, .int .i64 s]) ∧ Below w1.heap.size w1 w' := fun w1 hb => by
        have := show_any (h'.below hb) o' t
        rw [d2, hsE] at this
        exact this
      have HS := Lib.hid hS
      clear c1 c2 d1 d2 hw1 hw2 hsE hS
      go_enter Try.func19, Try.ntmps19
      go_wp2_with fail
      refine hn0.mono ?_
      rintro e w1 ⟨rfl, rfl⟩
      go_wp2_with fail
      refine hn.mono ?_
      rintro e w1 ⟨rfl, rfl⟩
      go_wp2_with fail
      refine hs.mono ?_
      rintro e w1 ⟨rfl, hb⟩
      go_wp2_with fail
      refine (HS.out w1 hb).mono ?_
      rintro e w2 ⟨rfl, hb2⟩
      go_wp2_with fail
      go_ret2
      exact ⟨rfl, hb.trans (hb2.mono hb.size)⟩
    · have hw2 : wiE x y z x' y' z' t = 0 := by rw [wiE, if_pos c1, d1]
      have hw1 : wiB x y z x' y' z' t k = (decide (val x y z t - val x' y' z' t ≤ k) && decide (val x' y' z' t - val x y z t ≤ k)) := by simp [wiB, c1, d1]
      rw [hw1, hw2]
      have hS : ∀ w1, Below w.heap.size w w1 → Calls Try.prog 15 #[.pointer (some ⟨c, 0, none⟩), .int .i64 t] w1 fun e w' => e = .returned (.tuple #[.int .i64 (val x' y' z' t), .int .i64 0]) ∧ Below w1.heap.size w1 w' := fun w1 hb => by
        have := show_any (h'.below hb) o' t
        rw [d1, d2] at this
        exact this
      have HS := Lib.hid hS
      clear c1 c2 d1 d2 hw1 hw2 hS
      go_enter Try.func19, Try.ntmps19
      go_wp2_with fail
      refine hn0.mono ?_
      rintro e w1 ⟨rfl, rfl⟩
      go_wp2_with fail
      refine hn.mono ?_
      rintro e w1 ⟨rfl, rfl⟩
      go_wp2_with fail
      refine hs.mono ?_
      rintro e w1 ⟨rfl, hb⟩
      go_wp2_with fail
      refine (HS.out w1 hb).mono ?_
      rintro e w2 ⟨rfl, hb2⟩
      go_wp2_with fail
      all_goals go_ret2
      all_goals refine ⟨ret2_bool ?_, hb.trans (hb2.mono hb.size)⟩
      all_goals rw [Bool.eq_iff_iff]; simp only [Bool.and_eq_true, decide_eq_true_eq]; omega
end Go.Proofs.Ytjdefiiinameiaa
