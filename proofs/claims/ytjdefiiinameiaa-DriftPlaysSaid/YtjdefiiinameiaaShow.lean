/- The methods of a clock that only look: allowed, Show, Deviation, over, Exceeds. -/
import Derived.Test.YtjdefiiinameiaaLeaf
namespace Go.Proofs.Ytjdefiiinameiaa
open Go.RowKit

def shE (x y z t : Int) : Int := if tmB t = true then (if t < x then 8 else if tmB (val x y z t) = true then 0 else 3) else 3
def shV (x y z t : Int) : Int := if shE x y z t = 0 then val x y z t else 0
def alE (x t : Int) : Int := if tmB t = true then (if t < x then 8 else 0) else 3

set_option maxHeartbeats 400000 in
theorem allowed_any {w : World} {b : Nat} {x y z : Int} (h : Clk w b x y z) (t : Int) :
    Calls Try.prog 27 #[.pointer (some ⟨b, 0, none⟩), .int .i64 t] w fun e w' => e = .returned (.int .i64 (alE x t)) ∧ Below w.heap.size w w' := by
  have c0 := h.c0
  have lt := h.lt
  have hn := none_clk h
  by_cases ht : tmB t = true
  · by_cases hx : t < x
    · rw [show alE x t = 8 by simp [alE, ht, hx]]
      go_enter Try.func27, Try.ntmps27
      go_wp2_with (first | (go_at_call 26; refine hn.mono ?_; rintro e w' ⟨rfl, rfl⟩) | (go_at_call 22; refine (times1_new _ _).mono ?_; rintro e w' ⟨rfl, rfl⟩))
      go_ret
      exact ⟨rfl, (Below.refl _ _).alloc (Nat.le_refl _) _⟩
    · rw [show alE x t = 0 by simp [alE, ht, hx]]
      go_enter Try.func27, Try.ntmps27
      go_wp2_with (first | (go_at_call 26; refine hn.mono ?_; rintro e w' ⟨rfl, rfl⟩) | (go_at_call 22; refine (times1_new _ _).mono ?_; rintro e w' ⟨rfl, rfl⟩))
      go_ret
      exact ⟨rfl, (Below.refl _ _).alloc (Nat.le_refl _) _⟩
  · have ht' : tmB t = false := by simpa using ht
    rw [show alE x t = 3 by simp [alE, ht]]
    go_enter Try.func27, Try.ntmps27
    go_wp2_with (first | (go_at_call 26; refine hn.mono ?_; rintro e w' ⟨rfl, rfl⟩) | (go_at_call 22; refine (times1_new _ _).mono ?_; rintro e w' ⟨rfl, rfl⟩))
    go_ret
    exact ⟨rfl, (Below.refl _ _).alloc (Nat.le_refl _) _⟩

/-- The four ways of Show. -/
theorem sh_cases (x y z t : Int) :
    (tmB t = false ∧ alE x t = 3 ∧ shE x y z t = 3 ∧ shV x y z t = 0) ∨
    (tmB t = true ∧ t < x ∧ alE x t = 8 ∧ shE x y z t = 8 ∧ shV x y z t = 0) ∨
    (tmB t = true ∧ ¬ t < x ∧ tmB (val x y z t) = false ∧ alE x t = 0 ∧ shE x y z t = 3 ∧ shV x y z t = 0) ∨
    (tmB t = true ∧ ¬ t < x ∧ tmB (val x y z t) = true ∧ alE x t = 0 ∧ shE x y z t = 0 ∧ shV x y z t = val x y z t) := by
  by_cases ht : tmB t = true
  · by_cases hx : t < x
    · right; left; simp [shE, shV, alE, ht, hx]
    · by_cases hv : tmB (val x y z t) = true
      · right; right; right; simp [shE, shV, alE, ht, hx, hv]
      · have hv' : tmB (val x y z t) = false := by simpa using hv
        right; right; left; simp [shE, shV, alE, ht, hx, hv']
  · have ht' : tmB t = false := by simpa using ht
    left; simp [shE, shV, alE, ht']

set_option maxHeartbeats 400000 in
theorem show_any {w : World} {b : Nat} {x y z : Int} (h : Clk w b x y z) (o : Okc x y z) (t : Int) :
    Calls Try.prog 15 #[.pointer (some ⟨b, 0, none⟩), .int .i64 t] w fun e w' => e = .returned (.tuple #[.int .i64 (shV x y z t), .int .i64 (shE x y z t)]) ∧ Below w.heap.size w w' := by
  have ha := allowed_any h t
  rcases sh_cases x y z t with ⟨c1, c2, c3, c4⟩ | ⟨c1, c2, c3, c4, c5⟩ | ⟨c1, c2, c3, c4, c5, c6⟩ | ⟨c1, c2, c3, c4, c5, c6⟩
  · rw [c3, c4]
    rw [c2] at ha
    clear c1 c2 c3 c4
    go_enter Try.func15, Try.ntmps15
    go_wp2_with fail
    refine ha.mono ?_
    rintro e w1 ⟨rfl, hb⟩
    go_wp2_with fail
    go_ret2
    exact ⟨rfl, hb⟩
  · rw [c4, c5]
    rw [c3] at ha
    clear c1 c2 c3 c4 c5
    go_enter Try.func15, Try.ntmps15
    go_wp2_with fail
    refine ha.mono ?_
    rintro e w1 ⟨rfl, hb⟩
    go_wp2_with fail
    go_ret2
    exact ⟨rfl, hb⟩
  · rw [c5, c6]
    rw [c4] at ha
    have hr := tmB_true c1
    have HC := Lib.hid c3
    clear c1 c2 c3 c4 c5 c6
    go_enter Try.func15, Try.ntmps15
    go_wp2_with fail
    refine ha.mono ?_
    rintro e w1 ⟨rfl, hb⟩
    go_wp2_with fail
    refine (value_any (h.below hb) o t hr.1 hr.2).mono ?_
    rintro e w2 ⟨rfl, hb2⟩
    go_wp2_with fail
    refine (times1_new _ _).mono ?_
    rintro e w3 ⟨rfl, rfl⟩
    rw [HC.out]
    go_wp2_with fail
    go_ret2
    exact ⟨rfl, hb.trans ((hb2.mono hb.size).alloc (Nat.le_trans hb.size hb2.size) _)⟩
  · rw [c5, c6]
    rw [c4] at ha
    have hr := tmB_true c1
    have HC := Lib.hid c3
    clear c1 c2 c3 c4 c5 c6
    go_enter Try.func15, Try.ntmps15
    go_wp2_with fail
    refine ha.mono ?_
    rintro e w1 ⟨rfl, hb⟩
    go_wp2_with fail
    refine (value_any (h.below hb) o t hr.1 hr.2).mono ?_
    rintro e w2 ⟨rfl, hb2⟩
    go_wp2_with fail
    refine (times1_new _ _).mono ?_
    rintro e w3 ⟨rfl, rfl⟩
    rw [HC.out]
    go_wp2_with fail
    go_ret2
    exact ⟨rfl, hb.trans ((hb2.mono hb.size).alloc (Nat.le_trans hb.size hb2.size) _)⟩

theorem Okc.val_bd {x y z : Int} (o : Okc x y z) (t : Int) (t0 : 0 ≤ t) (t1 : t ≤ 1099511627776) : -1000000000000000 ≤ val x y z t ∧ val x y z t ≤ 1000000000000000 := by
  obtain ⟨a0, a1, s0, s1, r0, r1⟩ := o
  have hp := prod_bd (d := t - x) (z := z) (by omega) (by omega) r0 r1
  unfold val
  omega

set_option maxHeartbeats 400000 in
theorem dev_any {w : World} {b : Nat} {x y z : Int} (h : Clk w b x y z) (o : Okc x y z) (t : Int) :
    Calls Try.prog 18 #[.pointer (some ⟨b, 0, none⟩), .int .i64 t] w fun e w' => e = .returned (.tuple #[.int .i64 (if shE x y z t = 0 then val x y z t - t else 0), .int .i64 (shE x y z t)]) ∧ Below w.heap.size w w' := by
  have ha := show_any h o t
  rcases sh_cases x y z t with ⟨c1, c2, c3, c4⟩ | ⟨c1, c2, c3, c4, c5⟩ | ⟨c1, c2, c3, c4, c5, c6⟩ | ⟨c1, c2, c3, c4, c5, c6⟩
  · rw [if_neg (by omega)]
    rw [c3, c4] at ha
    rw [c3]
    clear c1 c2 c3 c4
    go_enter Try.func18, Try.ntmps18
    go_wp2_with fail
    refine ha.mono ?_
    rintro e w1 ⟨rfl, hb⟩
    go_wp2_with fail
    go_ret2
    exact ⟨rfl, hb⟩
  · rw [if_neg (by omega)]
    rw [c4, c5] at ha
    rw [c4]
    clear c1 c2 c3 c4 c5
    go_enter Try.func18, Try.ntmps18
    go_wp2_with fail
    refine ha.mono ?_
    rintro e w1 ⟨rfl, hb⟩
    go_wp2_with fail
    go_ret2
    exact ⟨rfl, hb⟩
  · rw [if_neg (by omega)]
    rw [c5, c6] at ha
    rw [c5]
    clear c1 c2 c3 c4 c5 c6
    go_enter Try.func18, Try.ntmps18
    go_wp2_with fail
    refine ha.mono ?_
    rintro e w1 ⟨rfl, hb⟩
    go_wp2_with fail
    go_ret2
    exact ⟨rfl, hb⟩
  · rw [if_pos (by omega)]
    rw [c5, c6] at ha
    rw [c5]
    have hr := tmB_true c1
    obtain ⟨r1, r2⟩ := hr
    have hv := o.val_bd t r1 r2
    obtain ⟨v1, v2⟩ := hv
    clear c1 c2 c3 c4 c5 c6
    go_enter Try.func18, Try.ntmps18
    go_wp2_with fail
    refine ha.mono ?_
    rintro e w1 ⟨rfl, hb⟩
    go_wp2_with fail
    go_ret2
    exact ⟨rfl, hb⟩

theorem ret_bool {a b : Bool} (h : a = b) : Ending.returned (.bool a) = .returned (.bool b) := by rw [h]

/-- The deviation is greater than a skew. -/
def ovB (x y z k t : Int) : Bool := decide (k < val x y z t - t) || decide (k < -(val x y z t - t))
set_option maxHeartbeats 400000 in
theorem over_any {w : World} {b p q : Nat} {x y z k : Int} (h : Clk w b x y z) (o : Okc x y z) (hp : w.cell? ⟨p, 0, none⟩ = some (.pointer (some ⟨b, 0, none⟩)))
   (hq : w.cell? ⟨q, 0, none⟩ = some (.int .i64 k)) (hql : q < w.heap.size) (t : Int) (t0 : 0 ≤ t) (t1 : t ≤ 1099511627776) :
    Calls Try.prog 28 #[.int .i64 t, .pointer (some ⟨p, 0, none⟩), .pointer (some ⟨q, 0, none⟩)] w fun e w' => e = .returned (.bool (ovB x y z k t)) ∧ Below w.heap.size w w' := by
  have hv := o.val_bd t t0 t1
  obtain ⟨v1, v2⟩ := hv
  go_enter Try.func28, Try.ntmps28
  go_wp2_with fail
  refine (value_any h o t t0 t1).mono ?_
  rintro e w1 ⟨rfl, hb⟩
  have hq1 : w1.cell? ⟨q, 0, none⟩ = some (.int .i64 k) := by rw [hb.cell hql]; exact hq
  go_wp2_with fail
  · go_ret
    refine ⟨ret_bool ?_, hb⟩
    unfold ovB
    rw [Bool.eq_iff_iff]
    simp only [Bool.or_eq_true, decide_eq_true_eq]
    omega
  · go_ret
    refine ⟨ret_bool ?_, hb⟩
    unfold ovB
    rw [Bool.eq_iff_iff]
    simp only [Bool.or_eq_true, decide_eq_true_eq]
    omega
end Go.Proofs.Ytjdefiiinameiaa
