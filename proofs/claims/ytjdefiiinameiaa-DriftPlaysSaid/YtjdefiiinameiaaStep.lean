/- Step and SetRate of the program. -/
import Derived.Test.YtjdefiiinameiaaMeth
namespace Go.Proofs.Ytjdefiiinameiaa
open Go.RowKit

/-- Of what was there nothing but block b has changed. -/
structure But (b : Nat) (w w' : World) : Prop where
  os : w'.os = w.os
  tape : w'.tape = w.tape
  output : w'.output = w.output
  size : w.heap.size ≤ w'.heap.size
  block : ∀ k, k < w.heap.size → k ≠ b → w'.heap[k]? = w.heap[k]?

theorem But.of_below {b : Nat} {w w' : World} (h : Below w.heap.size w w') : But b w w' := ⟨h.os, h.tape, h.output, h.size, fun k hk _ => h.block k hk⟩
theorem But.trans {b : Nat} {u v w : World} (h : But b u v) (k : But b v w) : But b u w :=
  ⟨k.os.trans h.os, k.tape.trans h.tape, k.output.trans h.output, Nat.le_trans h.size k.size, fun i hi hn => (k.block i (Nat.lt_of_lt_of_le hi h.size) hn).trans (h.block i hi hn)⟩
theorem But.setCell {b : Nat} {u w : World} (h : But b u w) (o : Nat) (v : Value) : But b u (w.setCell ⟨b, o, none⟩ v) :=
  h.trans ⟨rfl, rfl, rfl, by simp [World.setCell], fun k _ hn => Below.heap_setCell _ _ _ _ hn⟩
theorem But.below {b B : Nat} {w w' : World} (h : But b w w') (h1 : B ≤ b) (h2 : B ≤ w.heap.size) : Below B w w' :=
  ⟨h.os, h.tape, h.output, h.size, fun k hk => h.block k (by omega) (by omega)⟩
theorem But.clk {b c : Nat} {w w' : World} {x y z : Int} (h : But b w w') (hc : Clk w c x y z) (hn : c ≠ b) : Clk w' c x y z := by
  have hl := hc.lt
  have hB : ∀ o, w'.cell? ⟨c, o, none⟩ = w.cell? ⟨c, o, none⟩ := fun o => World.cell?_of_block (w := w) (h.block c hl hn)
  have hF : ∀ o, w'.frozen? ⟨c, o, none⟩ = w.frozen? ⟨c, o, none⟩ := fun o => World.frozen?_of_block (w := w) (h.block c hl hn)
  exact ⟨by rw [hB]; exact hc.c0, by rw [hB]; exact hc.c1, by rw [hB]; exact hc.c2, by rw [hB]; exact hc.c3, by rw [hF]; exact hc.f0, by rw [hF]; exact hc.f1, by rw [hF]; exact hc.f2, Nat.lt_of_lt_of_le hl h.size⟩

def stE (x y z t d : Int) : Int := if shE x y z t = 0 then (if tmB (val x y z t + d) = true then 0 else 3) else shE x y z t
def stX (x y z t d : Int) : Int := if stE x y z t d = 0 then t else x
def stY (x y z t d : Int) : Int := if stE x y z t d = 0 then val x y z t + d else y
def StepQ (b : Nat) (x y z t d : Int) (w : World) (e : Ending) (w' : World) : Prop :=
  e = .returned (.int .i64 (stE x y z t d)) ∧ Clk w' b (stX x y z t d) (stY x y z t d) z ∧ But b w w'
def srE (x y z t r : Int) : Int := if rtB r = true then shE x y z t else 2
def srX (x y z t r : Int) : Int := if srE x y z t r = 0 then t else x
def srY (x y z t r : Int) : Int := if srE x y z t r = 0 then val x y z t else y
def srZ (x y z t r : Int) : Int := if srE x y z t r = 0 then r else z
def SetQ (b : Nat) (x y z t r : Int) (w : World) (e : Ending) (w' : World) : Prop :=
  e = .returned (.int .i64 (srE x y z t r)) ∧ Clk w' b (srX x y z t r) (srY x y z t r) (srZ x y z t r) ∧ But b w w'

theorem Clk.set2 {w : World} {b : Nat} {x y z : Int} (h : Clk w b x y z) (x' y' : Int) :
    Clk ((w.setCell ⟨b, 0, none⟩ (.int .i64 x')).setCell ⟨b, 1, none⟩ (.int .i64 y')) b x' y' z := by
  obtain ⟨c0, c1, c2, c3, f0, f1, f2, lt⟩ := h
  refine ⟨?_, ?_, ?_, ?_, ?_, ?_, ?_, ?_⟩ <;> simp [go_sem, c0, c1, c2, c3, f0, f1, f2, lt]

set_option maxHeartbeats 400000 in
theorem step_fail {w : World} {b : Nat} {x y z : Int} (h : Clk w b x y z) (o : Okc x y z) (t d : Int) (c : Int) (hc : shE x y z t = c) (hv : shV x y z t = 0) (c0 : c = 3 ∨ c = 8) :
    Calls Try.prog 21 #[.pointer (some ⟨b, 0, none⟩), .int .i64 t, .int .i64 d] w (StepQ b x y z t d w) := by
  have ha := show_any h o t
  rw [hc, hv] at ha
  have hne : (c != 0) = true := by rcases c0 with rfl | rfl <;> decide
  have e1 : stE x y z t d = c := by rw [stE, hc, if_neg (by omega)]
  have e2 : stX x y z t d = x := by rw [stX, e1, if_neg (by omega)]
  have e3 : stY x y z t d = y := by rw [stY, e1, if_neg (by omega)]
  have E1 := Lib.hid e1
  have E2 := Lib.hid e2
  have E3 := Lib.hid e3
  clear e1 e2 e3 hc hv c0
  go_enter Try.func21, Try.ntmps21
  go_wp2_with fail
  refine ha.mono ?_
  rintro e w1 ⟨rfl, hb⟩
  go_wp2_with fail
  go_ret
  exact ⟨ret_int E1.out.symm, by rw [E2.out, E3.out]; exact h.below hb, But.of_below hb⟩

set_option maxHeartbeats 400000 in
theorem step_over {w : World} {b : Nat} {x y z : Int} (h : Clk w b x y z) (o : Okc x y z) (t d : Int) (hc : shE x y z t = 0) (hv : shV x y z t = val x y z t) (v0 : tmB (val x y z t) = true) (c0 : tmB (val x y z t + d) = false) :
    Calls Try.prog 21 #[.pointer (some ⟨b, 0, none⟩), .int .i64 t, .int .i64 d] w (StepQ b x y z t d w) := by
  have ha := show_any h o t
  rw [hc, hv] at ha
  obtain ⟨v1, v2⟩ := tmB_true v0
  have c1 := tmB_false c0
  have e1 : stE x y z t d = 3 := by rw [stE, hc, if_pos rfl, if_neg (by rw [c0]; decide)]
  have e2 : stX x y z t d = x := by rw [stX, e1, if_neg (by omega)]
  have e3 : stY x y z t d = y := by rw [stY, e1, if_neg (by omega)]
  have E1 := Lib.hid e1
  have E2 := Lib.hid e2
  have E3 := Lib.hid e3
  clear e1 e2 e3 hc hv c0 v0
  rcases c1 with c1 | c1
  · have c2 : d < -(val x y z t) := by omega
    clear c1
    go_enter Try.func21, Try.ntmps21
    go_wp2_with fail
    refine ha.mono ?_
    rintro e w1 ⟨rfl, hb⟩
    go_wp2_with fail
    go_ret
    exact ⟨ret_int E1.out.symm, by rw [E2.out, E3.out]; exact h.below hb, But.of_below hb⟩
  · have c2 : ¬ d < -(val x y z t) := by omega
    have c3 : 1099511627776 - val x y z t < d := by omega
    clear c1
    go_enter Try.func21, Try.ntmps21
    go_wp2_with fail
    refine ha.mono ?_
    rintro e w1 ⟨rfl, hb⟩
    go_wp2_with fail
    go_ret
    exact ⟨ret_int E1.out.symm, by rw [E2.out, E3.out]; exact h.below hb, But.of_below hb⟩

set_option maxHeartbeats 400000 in
theorem step_ok {w : World} {b : Nat} {x y z : Int} (h : Clk w b x y z) (o : Okc x y z) (t d : Int) (hc : shE x y z t = 0) (hv : shV x y z t = val x y z t) (v0 : tmB (val x y z t) = true) (c0 : tmB (val x y z t + d) = true) :
    Calls Try.prog 21 #[.pointer (some ⟨b, 0, none⟩), .int .i64 t, .int .i64 d] w (StepQ b x y z t d w) := by
  have ha := show_any h o t
  rw [hc, hv] at ha
  obtain ⟨v1, v2⟩ := tmB_true v0
  obtain ⟨v3, v4⟩ := tmB_true c0
  have e1 : stE x y z t d = 0 := by rw [stE, hc, if_pos rfl, if_pos c0]
  have e2 : stX x y z t d = t := by rw [stX, e1, if_pos rfl]
  have e3 : stY x y z t d = val x y z t + d := by rw [stY, e1, if_pos rfl]
  have E1 := Lib.hid e1
  have E2 := Lib.hid e2
  have E3 := Lib.hid e3
  clear e1 e2 e3 hc hv c0 v0
  have c2 : ¬ d < -(val x y z t) := by omega
  have c3 : ¬ 1099511627776 - val x y z t < d := by omega
  go_enter Try.func21, Try.ntmps21
  go_wp2_with fail
  refine ha.mono ?_
  rintro e w1 ⟨rfl, hb⟩
  have h1 := h.below hb
  have k0 := h1.c0
  have k1 := h1.c1
  have f0 := h1.f0
  have f1 := h1.f1
  go_wp2_with fail
  go_ret
  exact ⟨ret_int E1.out.symm, by rw [E2.out, E3.out]; exact h1.set2 _ _, ((But.of_below hb).setCell _ _).setCell _ _⟩

theorem step_any {w : World} {b : Nat} {x y z : Int} (h : Clk w b x y z) (o : Okc x y z) (t d : Int) :
    Calls Try.prog 21 #[.pointer (some ⟨b, 0, none⟩), .int .i64 t, .int .i64 d] w (StepQ b x y z t d w) := by
  rcases sh_cases x y z t with ⟨c1, c2, c3, c4⟩ | ⟨c1, c2, c3, c4, c5⟩ | ⟨c1, c2, c3, c4, c5, c6⟩ | ⟨c1, c2, c3, c4, c5, c6⟩
  · exact step_fail h o t d 3 c3 c4 (.inl rfl)
  · exact step_fail h o t d 8 c4 c5 (.inr rfl)
  · exact step_fail h o t d 3 c5 c6 (.inl rfl)
  · by_cases hd : tmB (val x y z t + d) = true
    · exact step_ok h o t d c5 c6 c3 hd
    · exact step_over h o t d c5 c6 c3 (Bool.eq_false_iff.2 hd)

theorem Okc.step {x y z : Int} (o : Okc x y z) (t d : Int) : Okc (stX x y z t d) (stY x y z t d) z := by
  obtain ⟨a0, a1, s0, s1, r0, r1⟩ := o
  by_cases hE : stE x y z t d = 0
  · rw [stX, stY, if_pos hE, if_pos hE]
    have h1 : tmB t = true ∧ tmB (val x y z t + d) = true := by
      rcases sh_cases x y z t with ⟨c1, c2, c3, c4⟩ | ⟨c1, c2, c3, c4, c5⟩ | ⟨c1, c2, c3, c4, c5, c6⟩ | ⟨c1, c2, c3, c4, c5, c6⟩
      · rw [stE, c3, if_neg (by omega)] at hE; omega
      · rw [stE, c4, if_neg (by omega)] at hE; omega
      · rw [stE, c5, if_neg (by omega)] at hE; omega
      · rw [stE, c5, if_pos rfl] at hE
        refine ⟨c1, ?_⟩
        by_cases hd : tmB (val x y z t + d) = true
        · exact hd
        · rw [if_neg hd] at hE; omega
    have a := tmB_true h1.1
    have b := tmB_true h1.2
    exact ⟨a.1, a.2, b.1, b.2, r0, r1⟩
  · rw [stX, stY, if_neg hE, if_neg hE]
    exact ⟨a0, a1, s0, s1, r0, r1⟩

theorem Clk.set3 {w : World} {b : Nat} {x y z : Int} (h : Clk w b x y z) (x' y' z' : Int) :
    Clk (((w.setCell ⟨b, 0, none⟩ (.int .i64 x')).setCell ⟨b, 1, none⟩ (.int .i64 y')).setCell ⟨b, 2, none⟩ (.int .i64 z')) b x' y' z' := by
  obtain ⟨c0, c1, c2, c3, f0, f1, f2, lt⟩ := h
  refine ⟨?_, ?_, ?_, ?_, ?_, ?_, ?_, ?_⟩ <;> simp [go_sem, c0, c1, c2, c3, f0, f1, f2, lt]

set_option maxHeartbeats 400000 in
theorem set_arg {w : World} {b : Nat} {x y z : Int} (h : Clk w b x y z) (t r : Int) (hr : rtB r = false) :
    Calls Try.prog 17 #[.pointer (some ⟨b, 0, none⟩), .int .i64 t, .int .i64 r] w (SetQ b x y z t r w) := by
  have hn := none_clk h
  have e1 : srE x y z t r = 2 := by rw [srE, hr, if_neg (by decide)]
  have e2 : srX x y z t r = x := by rw [srX, e1, if_neg (by omega)]
  have e3 : srY x y z t r = y := by rw [srY, e1, if_neg (by omega)]
  have e4 : srZ x y z t r = z := by rw [srZ, e1, if_neg (by omega)]
  have E1 := Lib.hid e1
  have E2 := Lib.hid e2
  have E3 := Lib.hid e3
  have E4 := Lib.hid e4
  have HR := Lib.hid hr
  clear e1 e2 e3 e4 hr
  go_enter Try.func17, Try.ntmps17
  go_wp2_with fail
  refine hn.mono ?_
  rintro e w1 ⟨rfl, rfl⟩
  go_wp2_with fail
  refine (rates_any _ _).mono ?_
  rintro e w1 ⟨rfl, rfl⟩
  rw [HR.out]
  go_wp2_with fail
  go_ret
  exact ⟨ret_int E1.out.symm, by rw [E2.out, E3.out, E4.out]; exact h, But.of_below (Below.refl _ _)⟩

set_option maxHeartbeats 400000 in
theorem set_fail {w : World} {b : Nat} {x y z : Int} (h : Clk w b x y z) (o : Okc x y z) (t r : Int) (hr : rtB r = true) (c : Int) (hc : shE x y z t = c) (hv : shV x y z t = 0) (c0 : c = 3 ∨ c = 8) :
    Calls Try.prog 17 #[.pointer (some ⟨b, 0, none⟩), .int .i64 t, .int .i64 r] w (SetQ b x y z t r w) := by
  have hn := none_clk h
  have ha := show_any h o t
  rw [hc, hv] at ha
  have hne : (c == 0) = false := by rcases c0 with rfl | rfl <;> decide
  have e1 : srE x y z t r = c := by rw [srE, hr, if_pos rfl, hc]
  have e2 : srX x y z t r = x := by rw [srX, e1, if_neg (by omega)]
  have e3 : srY x y z t r = y := by rw [srY, e1, if_neg (by omega)]
  have e4 : srZ x y z t r = z := by rw [srZ, e1, if_neg (by omega)]
  have E1 := Lib.hid e1
  have E2 := Lib.hid e2
  have E3 := Lib.hid e3
  have E4 := Lib.hid e4
  have HR := Lib.hid hr
  clear e1 e2 e3 e4 hr hc hv c0
  go_enter Try.func17, Try.ntmps17
  go_wp2_with fail
  refine hn.mono ?_
  rintro e w1 ⟨rfl, rfl⟩
  go_wp2_with fail
  refine (rates_any _ _).mono ?_
  rintro e w1 ⟨rfl, rfl⟩
  rw [HR.out]
  go_wp2_with fail
  refine ha.mono ?_
  rintro e w1 ⟨rfl, hb⟩
  go_wp2_with fail
  go_ret
  exact ⟨ret_int E1.out.symm, by rw [E2.out, E3.out, E4.out]; exact h.below hb, But.of_below hb⟩

set_option maxHeartbeats 400000 in
theorem set_ok {w : World} {b : Nat} {x y z : Int} (h : Clk w b x y z) (o : Okc x y z) (t r : Int) (hr : rtB r = true) (hc : shE x y z t = 0) (hv : shV x y z t = val x y z t) :
    Calls Try.prog 17 #[.pointer (some ⟨b, 0, none⟩), .int .i64 t, .int .i64 r] w (SetQ b x y z t r w) := by
  have hn := none_clk h
  have ha := show_any h o t
  rw [hc, hv] at ha
  have e1 : srE x y z t r = 0 := by rw [srE, hr, if_pos rfl, hc]
  have e2 : srX x y z t r = t := by rw [srX, e1, if_pos rfl]
  have e3 : srY x y z t r = val x y z t := by rw [srY, e1, if_pos rfl]
  have e4 : srZ x y z t r = r := by rw [srZ, e1, if_pos rfl]
  have E1 := Lib.hid e1
  have E2 := Lib.hid e2
  have E3 := Lib.hid e3
  have E4 := Lib.hid e4
  have HR := Lib.hid hr
  clear e1 e2 e3 e4 hr hc hv
  go_enter Try.func17, Try.ntmps17
  go_wp2_with fail
  refine hn.mono ?_
  rintro e w1 ⟨rfl, rfl⟩
  go_wp2_with fail
  refine (rates_any _ _).mono ?_
  rintro e w1 ⟨rfl, rfl⟩
  rw [HR.out]
  go_wp2_with fail
  refine ha.mono ?_
  rintro e w1 ⟨rfl, hb⟩
  have h1 := h.below hb
  have k0 := h1.c0
  have k1 := h1.c1
  have k2 := h1.c2
  have f0 := h1.f0
  have f1 := h1.f1
  have f2 := h1.f2
  go_wp2_with fail
  go_ret
  exact ⟨ret_int E1.out.symm, by rw [E2.out, E3.out, E4.out]; exact h1.set3 _ _ _, (((But.of_below hb).setCell _ _).setCell _ _).setCell _ _⟩

theorem set_any {w : World} {b : Nat} {x y z : Int} (h : Clk w b x y z) (o : Okc x y z) (t r : Int) :
    Calls Try.prog 17 #[.pointer (some ⟨b, 0, none⟩), .int .i64 t, .int .i64 r] w (SetQ b x y z t r w) := by
  by_cases hr : rtB r = true
  · rcases sh_cases x y z t with ⟨c1, c2, c3, c4⟩ | ⟨c1, c2, c3, c4, c5⟩ | ⟨c1, c2, c3, c4, c5, c6⟩ | ⟨c1, c2, c3, c4, c5, c6⟩
    · exact set_fail h o t r hr 3 c3 c4 (.inl rfl)
    · exact set_fail h o t r hr 8 c4 c5 (.inr rfl)
    · exact set_fail h o t r hr 3 c5 c6 (.inl rfl)
    · exact set_ok h o t r hr c5 c6
  · exact set_arg h t r (Bool.eq_false_iff.2 hr)

theorem Okc.set {x y z : Int} (o : Okc x y z) (t r : Int) : Okc (srX x y z t r) (srY x y z t r) (srZ x y z t r) := by
  by_cases hE : srE x y z t r = 0
  · rw [srX, srY, srZ, if_pos hE, if_pos hE, if_pos hE]
    by_cases hr : rtB r = true
    · rw [srE, if_pos hr] at hE
      rcases sh_cases x y z t with ⟨c1, c2, c3, c4⟩ | ⟨c1, c2, c3, c4, c5⟩ | ⟨c1, c2, c3, c4, c5, c6⟩ | ⟨c1, c2, c3, c4, c5, c6⟩
      · omega
      · omega
      · omega
      · have a := tmB_true c1
        have b := tmB_true c3
        have c := rtB_true hr
        exact ⟨a.1, a.2, b.1, b.2, c.1, c.2⟩
    · rw [srE, if_neg hr] at hE; omega
  · rw [srX, srY, srZ, if_neg hE, if_neg hE, if_neg hE]
    exact o
end Go.Proofs.Ytjdefiiinameiaa
