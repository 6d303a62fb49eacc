/- DriftGrows returns true for every input: a clock never runs back, rebasing costs a second at most, Exceeds finds the first excess. -/
import Derived.Test.YtjdefiiinameiaaNil
import Derived.Test.YtjdefiiinameiaaLawKit
namespace Go.Proofs.Ytjdefiiinameiaa.driftGrows
open Go.ChangeShapes Go.WideShapes Go.ChangeAt Go.RowKit
set_option linter.unusedVariables false

theorem sh_in {x y z t : Int} (h0 : 0 ≤ t) (h1 : t ≤ 1099511627776) (h2 : x ≤ t) (h3 : 0 ≤ val x y z t) (h4 : val x y z t ≤ 1099511627776) : shE x y z t = 0 ∧ shV x y z t = val x y z t := by
  have a := tmB_mk ⟨h0, h1⟩
  have b := tmB_mk ⟨h3, h4⟩
  have c : ¬ t < x := by omega
  simp [shE, shV, a, b, c]

theorem mul_bd {d z : Int} (d0 : 0 ≤ d) (z0 : -100000 ≤ z) (z1 : z ≤ 100000) : -(d * 100000) ≤ d * z ∧ d * z ≤ d * 100000 := by
  have h1 : d * -100000 ≤ d * z := Int.mul_le_mul_of_nonneg_left z0 d0
  have h2 : d * z ≤ d * 100000 := Int.mul_le_mul_of_nonneg_left z1 d0
  omega

/-- The numbers of the stage: p and q are the parts after l and after m seconds. -/
theorem nums (p q y l m : Int) (s0 : 0 ≤ y) (hy : y ≤ 549755813888) (hl : 0 ≤ l) (hlm : l ≤ m) (hm : m ≤ 274877906944)
    (q1 : -(l * 100000) ≤ p ∧ p ≤ l * 100000) (q2 : -(m * 100000) ≤ q ∧ q ≤ m * 100000) (q3 : -((m - l) * 100000) ≤ q - p ∧ q - p ≤ (m - l) * 100000) :
    (0 ≤ y + l + p / 1000000 ∧ y + l + p / 1000000 ≤ 1099511627776) ∧ (0 ≤ y + m + q / 1000000 ∧ y + m + q / 1000000 ≤ 1099511627776) ∧ y + l + p / 1000000 ≤ y + m + q / 1000000 ∧
    y + l + p / 1000000 + (m - l) + (q - p) / 1000000 ≤ y + m + q / 1000000 ∧ y + m + q / 1000000 - 1 ≤ y + l + p / 1000000 + (m - l) + (q - p) / 1000000 ∧ 0 ≤ y + l + p / 1000000 + (m - l) + (q - p) / 1000000 := by
  obtain ⟨p0, p1⟩ := q1
  obtain ⟨p2, p3⟩ := q2
  obtain ⟨p4, p5⟩ := q3
  have f1 : 1000000 * (p / 1000000) ≤ p ∧ p < 1000000 * (p / 1000000) + 1000000 := by omega
  have f2 : 1000000 * (q / 1000000) ≤ q ∧ q < 1000000 * (q / 1000000) + 1000000 := by omega
  have f3 : 1000000 * ((q - p) / 1000000) ≤ q - p ∧ q - p < 1000000 * ((q - p) / 1000000) + 1000000 := by omega
  generalize p / 1000000 = a at *
  generalize q / 1000000 = b at *
  generalize (q - p) / 1000000 = c at *
  obtain ⟨f4, f5⟩ := f1
  obtain ⟨f6, f7⟩ := f2
  obtain ⟨f8, f9⟩ := f3
  refine ⟨⟨?_, ?_⟩, ⟨?_, ?_⟩, ?_, ?_, ?_, ?_⟩
  · clear p2 p3 p4 p5 f6 f7 f8 f9; omega
  · clear p2 p3 p4 p5 f6 f7 f8 f9; omega
  · clear p0 p1 p4 p5 f4 f5 f8 f9; omega
  · clear p0 p1 p4 p5 f4 f5 f8 f9; omega
  · clear p0 p1 p2 p3 f8 f9; omega
  · clear p0 p1 p2 p3 p4 p5; omega
  · clear p0 p1 p2 p3 p4 p5; omega
  · have h1 : 0 ≤ y + l + a := by clear p2 p3 p4 p5 f6 f7 f8 f9; omega
    have h2 : 0 ≤ m - l + c := by clear p0 p1 p2 p3 f4 f5 f6 f7 h1; omega
    clear p0 p1 p2 p3 p4 p5 f4 f5 f6 f7 f8 f9
    omega

/-- The plain law of the stage. -/
theorem facts {x y z l m : Int} (o : Okc x y z) (hx : x ≤ 549755813888) (hy : y ≤ 549755813888) (hl : 0 ≤ l) (hlm : l ≤ m) (hm : m ≤ 274877906944) :
    (shE x y z (x + l) = 0 ∧ shV x y z (x + l) = val x y z (x + l)) ∧ (shE x y z (x + m) = 0 ∧ shV x y z (x + m) = val x y z (x + m)) ∧ val x y z (x + l) ≤ val x y z (x + m) ∧ (z = 0 → val x y z (x + m) - val x y z (x + l) = m - l) ∧
    (0 ≤ val x y z (x + l) ∧ val x y z (x + l) ≤ 1099511627776) ∧ (0 ≤ val x y z (x + m) ∧ val x y z (x + m) ≤ 1099511627776) ∧
    (srE x y z (x + l) z = 0 ∧ srX x y z (x + l) z = x + l ∧ srY x y z (x + l) z = val x y z (x + l) ∧ srZ x y z (x + l) z = z) ∧
    (shE (x + l) (val x y z (x + l)) z (x + m) = 0 ∧ shV (x + l) (val x y z (x + l)) z (x + m) = val (x + l) (val x y z (x + l)) z (x + m)) ∧
    val (x + l) (val x y z (x + l)) z (x + m) ≤ val x y z (x + m) ∧ val x y z (x + m) - 1 ≤ val (x + l) (val x y z (x + l)) z (x + m) := by
  obtain ⟨a0, a1, s0, s1, r0, r1⟩ := o
  have e1 : val x y z (x + l) = y + l + l * z / 1000000 := by unfold val; rw [show x + l - x = l from by omega]; generalize l * z / 1000000 = u; omega
  have e2 : val x y z (x + m) = y + m + m * z / 1000000 := by unfold val; rw [show x + m - x = m from by omega]; generalize m * z / 1000000 = u; omega
  have e3 : val (x + l) (val x y z (x + l)) z (x + m) = val x y z (x + l) + (m - l) + (m - l) * z / 1000000 := by
    generalize val x y z (x + l) = v
    unfold val; rw [show x + m - (x + l) = m - l from by omega]; generalize (m - l) * z / 1000000 = u; omega
  have q1 := mul_bd hl r0 r1
  have q2 := mul_bd (show (0 : Int) ≤ m by omega) r0 r1
  have q3 := mul_bd (show (0 : Int) ≤ m - l by omega) r0 r1
  have q4 : (m - l) * z = m * z - l * z := Int.sub_mul _ _ _
  rw [q4] at q3 e3
  have num := nums (l * z) (m * z) y l m s0 hy hl hlm hm q1 q2 q3
  rw [← e1, ← e2, ← e3] at num
  obtain ⟨b1, b2, c3, c1, c2, c4⟩ := num
  have g1 := sh_in (x := x) (y := y) (z := z) (t := x + l) (by omega) (by omega) (by omega) b1.1 b1.2
  have g2 := sh_in (x := x) (y := y) (z := z) (t := x + m) (by omega) (by omega) (by omega) b2.1 b2.2
  have hsr : srE x y z (x + l) z = 0 := by rw [srE, if_pos (rtB_mk ⟨r0, r1⟩), g1.1]
  refine ⟨g1, g2, c3, ?_, b1, b2, ⟨hsr, by rw [srX, if_pos hsr], by rw [srY, if_pos hsr], by rw [srZ, if_pos hsr]⟩, sh_in (by omega) (by omega) (by omega) c4 (Int.le_trans c1 b2.2), c1, c2⟩
  intro hz
  subst hz
  rw [e1, e2, Int.mul_zero, Int.mul_zero]
  omega

/-- What Exceeds answers from the base on. -/
theorem exc_base {x y z k t c : Int} (o : Okc x y z) (h : ExcA x y z k x t c) : (c = 9) ∨ (c = 2 ∧ k < 0) ∨ (c = 0 ∧ 0 ≤ k ∧ x ≤ t ∧ t ≤ 1099511627776 ∧ ovB x y z k t = true ∧ (x < t → ovB x y z k (t - 1) = false)) := by
  have ha : alE x x = 0 := by simp [alE, tmB_mk ⟨o.a0, o.a1⟩]
  rcases h with ⟨a, b, c⟩ | ⟨a, b, c, d⟩ | ⟨a, b, c, d, e⟩ | ⟨a, b, c, d, e, f⟩ | ⟨a, b, c, d, e, f, g, i, j⟩
  · exact .inr (.inl ⟨c, a⟩)
  · exact absurd ha b
  · subst d; exact .inr (.inr ⟨e, a, by omega, o.a1, c, fun h => by omega⟩)
  · exact .inl f
  · exact .inr (.inr ⟨e, a, f, g, i, fun h => j _ (by omega) (by omega)⟩)

set_option maxRecDepth 100000 in
set_option maxHeartbeats 2000000 in
theorem walk_no (x y z l m k : Int) (ho : okB x y z = false) (w : World) :
    Calls Try.prog 5 #[.int .i64 x, .int .i64 y, .int .i64 z, .int .i64 l, .int .i64 m, .int .i64 k] w fun e w' => e = .returned (.bool true) ∧ Below w.heap.size w w' := by
  go_enter Try.func5, Try.ntmps5
  go_wp2_with fail
  refine (new_no ho w).mono ?_
  rintro e w1 ⟨rfl, hb1⟩
  go_wp2_with fail
  refine (known_any _).mono ?_
  rintro e w2 ⟨rfl, hb2⟩
  go_wp2_with fail
  go_ret
  exact ⟨rfl, hb1.trans (hb2.mono hb1.size)⟩

set_option maxRecDepth 100000 in
set_option maxHeartbeats 2000000 in
theorem walk_out (x y z l m k : Int) (o : Okc x y z) (hout : 549755813888 < x ∨ 549755813888 < y ∨ l < 0 ∨ m < l ∨ 274877906944 < m) (w : World) :
    Calls Try.prog 5 #[.int .i64 x, .int .i64 y, .int .i64 z, .int .i64 l, .int .i64 m, .int .i64 k] w fun e w' => e = .returned (.bool true) ∧ Below w.heap.size w w' := by
  rcases hout with h | h | h | h | h
  all_goals
    go_enter Try.func5, Try.ntmps5
    go_wp2_with fail
    refine (new_ok o w).mono ?_
    rintro e w1 ⟨b, rfl, hbB, h1, hb1⟩
    go_wp2_with fail
    all_goals refine (known_any _).mono ?_
    all_goals rintro e w2 ⟨rfl, hb2⟩
    all_goals go_wp2_with fail
    all_goals go_ret
    all_goals exact ⟨rfl, hb1.trans (hb2.mono hb1.size)⟩

/-- What Deviation answers where the deviation is too great: not both OK and small. -/
def DevA (x y z k t : Int) (w : World) (e : Ending) (w' : World) : Prop :=
  ∃ d c : Int, e = .returned (.tuple #[.int .i64 d, .int .i64 c]) ∧ Below w.heap.size w w' ∧ -9000000000000000000 ≤ d ∧ d ≤ 9000000000000000000 ∧ ((c == 0) = false ∨ ((c == 0) = true ∧ k < d) ∨ ((c == 0) = true ∧ d ≤ k ∧ k < -d))
def DevB (x y z k t : Int) (w : World) (e : Ending) (w' : World) : Prop :=
  ∃ d c : Int, e = .returned (.tuple #[.int .i64 d, .int .i64 c]) ∧ Below w.heap.size w w' ∧ -9000000000000000000 ≤ d ∧ d ≤ 9000000000000000000 ∧ ((c == 0) = false ∨ ((c == 0) = true ∧ d ≤ k ∧ -d ≤ k))
theorem dev_a {w : World} {b : Nat} {x y z : Int} (h : Clk w b x y z) (o : Okc x y z) (t k : Int) (ht : ovB x y z k t = true) :
    Calls Try.prog 18 #[.pointer (some ⟨b, 0, none⟩), .int .i64 t] w (DevA x y z k t w) := by
  refine (dev_any h o t).mono fun e w' ⟨he, hb⟩ => ⟨_, _, he, hb, ?_⟩
  rcases sh_two x y z t with ⟨c1, c2⟩ | ⟨c1, c2, v1, v2, t1, t2, t3⟩
  · have hn : ¬ shE x y z t = 0 := by omega
    rw [if_neg hn]
    exact ⟨by omega, by omega, .inl (by simpa using hn)⟩
  · rw [if_pos c1]
    refine ⟨by omega, by omega, .inr ?_⟩
    rw [c1]
    have := ov_true ht
    by_cases hk : k < val x y z t - t
    · exact .inl ⟨rfl, hk⟩
    · exact .inr ⟨rfl, by omega, by omega⟩
theorem dev_b {w : World} {b : Nat} {x y z : Int} (h : Clk w b x y z) (o : Okc x y z) (t k : Int) (ht : ovB x y z k t = false) :
    Calls Try.prog 18 #[.pointer (some ⟨b, 0, none⟩), .int .i64 t] w (DevB x y z k t w) := by
  refine (dev_any h o t).mono fun e w' ⟨he, hb⟩ => ⟨_, _, he, hb, ?_⟩
  rcases sh_two x y z t with ⟨c1, c2⟩ | ⟨c1, c2, v1, v2, t1, t2, t3⟩
  · have hn : ¬ shE x y z t = 0 := by omega
    rw [if_neg hn]
    exact ⟨by omega, by omega, .inl (by simpa using hn)⟩
  · rw [if_pos c1]
    refine ⟨by omega, by omega, .inr ?_⟩
    rw [c1]
    have := ov_false ht
    exact ⟨rfl, by omega, by omega⟩

theorem copy_clk {w w' : World} {b : Nat} {x y z : Int} (h : Clk w b x y z) (he : w.alloc (.cells #[.int .i64 x, .int .i64 y, .int .i64 z, .bool true] 54) = w') :
    Clk w' w.heap.size x y z ∧ Below w.heap.size w w' ∧ b ≠ w.heap.size := by
  subst he
  exact ⟨clk_new w x y z, (Below.refl _ _).alloc (Nat.le_refl _) _, Nat.ne_of_lt h.lt⟩

set_option maxRecDepth 100000 in
set_option maxHeartbeats 4000000 in
theorem walk_in (x y z l m k : Int) (o : Okc x y z) (hx : x ≤ 549755813888) (hy : y ≤ 549755813888) (hl : 0 ≤ l) (hlm : l ≤ m) (hm : m ≤ 274877906944) (w : World) :
    Calls Try.prog 5 #[.int .i64 x, .int .i64 y, .int .i64 z, .int .i64 l, .int .i64 m, .int .i64 k] w fun e w' => e = .returned (.bool true) ∧ Below w.heap.size w w' := by
  obtain ⟨⟨e1, e2⟩, ⟨e3, e4⟩, c1, c2, ⟨v0, v1⟩, ⟨u0, u1⟩, ⟨s1, s2, s3, s4⟩, ⟨e5, e6⟩, c3, c4⟩ := facts o hx hy hl hlm hm
  have hs1 : ∀ w b, Clk w b x y z → Calls Try.prog 15 #[.pointer (some ⟨b, 0, none⟩), .int .i64 (x + l)] w fun e w' => e = .returned (.tuple #[.int .i64 (val x y z (x + l)), .int .i64 0]) ∧ Below w.heap.size w w' := fun w b h => by
    have := show_any h o (x + l); rw [e1, e2] at this; exact this
  have hs2 : ∀ w b, Clk w b x y z → Calls Try.prog 15 #[.pointer (some ⟨b, 0, none⟩), .int .i64 (x + m)] w fun e w' => e = .returned (.tuple #[.int .i64 (val x y z (x + m)), .int .i64 0]) ∧ Below w.heap.size w w' := fun w b h => by
    have := show_any h o (x + m); rw [e3, e4] at this; exact this
  have hs3 : ∀ w b, Clk w b x y z → Calls Try.prog 17 #[.pointer (some ⟨b, 0, none⟩), .int .i64 (x + l), .int .i64 z] w fun e w' => e = .returned (.int .i64 0) ∧ Clk w' b (x + l) (val x y z (x + l)) z ∧ But b w w' := fun w b h => by
    have := set_any h o (x + l) z; unfold SetQ at this; rw [s1, s2, s3, s4] at this; exact this
  have o2 := o.set (x + l) z
  rw [s2, s3, s4] at o2
  have hs4 : ∀ w b, Clk w b (x + l) (val x y z (x + l)) z → Calls Try.prog 15 #[.pointer (some ⟨b, 0, none⟩), .int .i64 (x + m)] w fun e w' => e = .returned (.tuple #[.int .i64 (val (x + l) (val x y z (x + l)) z (x + m)), .int .i64 0]) ∧ Below w.heap.size w w' := fun w b h => by
    have := show_any h o2 (x + m); rw [e5, e6] at this; exact this
  clear e1 e2 e3 e4 e5 e6 s1 s2 s3 s4
  generalize hv : val x y z (x + l) = v at *
  generalize hu : val x y z (x + m) = u at *
  generalize hq : val (x + l) v z (x + m) = q at *
  clear hv hu hq
  have C2 := Lib.hid c2
  have H1 := Lib.hid hs1
  have H2 := Lib.hid hs2
  have H3 := Lib.hid hs3
  have H4 := Lib.hid hs4
  have q0 : 0 ≤ x := o.a0
  clear c2 hs1 hs2 hs3 hs4 o2
  go_enter Try.func5, Try.ntmps5
  go_wp2_with fail
  refine (new_ok o w).mono ?_
  rintro e w1 ⟨b, rfl, hbB, h1, hb1⟩
  go_wp2_with fail
  refine (H1.out _ _ h1).mono ?_
  rintro e w2 ⟨rfl, hb2⟩
  replace h1 := h1.below hb2
  replace hb1 := hb1.trans (hb2.mono hb1.size)
  clear hb2
  go_wp2_with fail
  refine (H2.out _ _ h1).mono ?_
  rintro e w3 ⟨rfl, hb3⟩
  replace h1 := h1.below hb3
  replace hb1 := hb1.trans (hb3.mono hb1.size)
  clear hb3
  have hz : (z == 0) = false ∨ ((z == 0) = true ∧ (u - v != m - l) = false) := by
    by_cases h : z = 0
    · exact .inr ⟨by simp [h], by rw [C2.out h]; simp⟩
    · exact .inl (by simp [h])
  clear C2
  rcases hz with hz | ⟨hz, hz2⟩
  all_goals
    go_wp2_with fail
    have hs3 := hb1.size
    refine (copy_any h1).mono ?_
    rintro e w4 ⟨rfl, hb4⟩
    obtain ⟨hd, hb4, hne⟩ := copy_clk h1 hb4
    replace h1 := h1.below hb4
    replace hb1 := hb1.trans (hb4.mono hb1.size)
    go_wp2_with fail
    refine (H3.out _ _ hd).mono ?_
    rintro e w5 ⟨rfl, hd5, hu5⟩
    replace h1 := hu5.clk h1 hne
    replace hb1 := hb1.trans (hu5.below hs3 hb1.size)
    clear hd hb4 hu5
    go_wp2_with fail
    refine (H4.out _ _ hd5).mono ?_
    rintro e w6 ⟨rfl, hb6⟩
    replace h1 := h1.below hb6
    replace hb1 := hb1.trans (hb6.mono hb1.size)
    clear hb6 hd5 H1 H2 H3 H4
    go_wp2_with fail
    refine (exc_any h1 o k x).mono ?_
    rintro e w7 ⟨t, c, rfl, hA, hb7⟩
    replace h1 := h1.below hb7
    replace hb1 := hb1.trans (hb7.mono hb1.size)
    have hB := exc_base o hA
    clear hb7 hA hne hs3
    rcases hB with rfl | ⟨rfl, hk⟩ | ⟨rfl, hk, t0, t1, ht, hp⟩
    · go_wp2_with fail
      refine (known_any _).mono ?_
      rintro e w8 ⟨rfl, hb8⟩
      go_wp2_with fail
      go_ret
      exact ⟨rfl, hb1.trans (hb8.mono hb1.size)⟩
    · go_wp2_with fail
      refine (known_any _).mono ?_
      rintro e w8 ⟨rfl, hb8⟩
      go_wp2_with fail
      go_ret
      exact ⟨rfl, hb1.trans (hb8.mono hb1.size)⟩
    · have HT := Lib.hid ht
      have HP := Lib.hid hp
      clear ht hp
      go_wp2_with fail
      refine (dev_a h1 o t k HT.out).mono ?_
      rintro e w8 ⟨d, c, rfl, hb8, d0, d1, hD⟩
      replace h1 := h1.below hb8
      replace hb1 := hb1.trans (hb8.mono hb1.size)
      clear hb8 HT
      rcases hD with hc | ⟨hc, hd⟩ | ⟨hc, hd, hd2⟩
      all_goals
        by_cases htx : x < t
        · go_wp2_with fail
          refine (dev_b h1 o (t - 1) k (HP.out htx)).mono ?_
          rintro e w9 ⟨f, g, rfl, hb9, f0, f1, hF⟩
          replace hb1 := hb1.trans (hb9.mono hb1.size)
          clear hb9
          rcases hF with hg | ⟨hg, hf1, hf2⟩
          all_goals
            go_wp2_with fail
            refine (known_any _).mono ?_
            rintro e w10 ⟨rfl, hb10⟩
            go_wp2_with fail
            go_ret
            exact ⟨rfl, hb1.trans (hb10.mono hb1.size)⟩
        · go_wp2_with fail
          refine (known_any _).mono ?_
          rintro e w10 ⟨rfl, hb10⟩
          go_wp2_with fail
          go_ret
          exact ⟨rfl, hb1.trans (hb10.mono hb1.size)⟩

theorem walk (x y z l m k : Int) (w : World) :
    Calls Try.prog 5 #[.int .i64 x, .int .i64 y, .int .i64 z, .int .i64 l, .int .i64 m, .int .i64 k] w fun e w' => e = .returned (.bool true) ∧ Below w.heap.size w w' := by
  by_cases h : okB x y z = true
  · have o := okB_true h
    by_cases ho : 549755813888 < x ∨ 549755813888 < y ∨ l < 0 ∨ m < l ∨ 274877906944 < m
    · exact walk_out x y z l m k o ho w
    · exact walk_in x y z l m k o (by omega) (by omega) (by omega) (by omega) (by omega) w
  · exact walk_no x y z l m k (Bool.eq_false_iff.2 h) w

set_option maxRecDepth 100000 in
theorem lifted (os : Os) (started : os.Started) (H : Type) (enc : TypeId × Value → H) :
    ReturnsInHanded {} Try.checked os 5 .any (Rows.driftGrowsSpec.pre6 enc Try.prog Try.f5 Rows.driftGrowsRow.domain false) (Rows.driftGrowsSpec.post enc Try.prog Try.f5 false true false false) := by
  refine returnsInHanded_of_change (C := Try.checked) own started (by kernel_rfl) Try.func5
    (ChangeSpec.witness6 (enc := enc) (C := Try.checked) false ⟨#[], #[.int .i64 0, .int .i64 0, .int .i64 0, .int .i64 0, .int .i64 0, .int .i64 0], []⟩ 8 (by kernel_rfl) (by kernel_rfl) (by kernel_rfl) (by kernel_rfl)) ?_
  intro W base args ds gs before hval0 hW hcnd _
  have hval : ∀ (j : Nat) t v, Try.f5.params[j]? = some t → args[j]? = some v → Value.okWide Try.prog W .any base t v := hval0
  have hW' := hW
  obtain ⟨p, q, hA0, hV, rfl, hfz, hnd⟩ := hW
  have hA : DataW.TrodAll enc Try.prog W 0 (fun _ => true) true Try.f5.params.toList args.toList ds p := hA0
  rw [Try.params5] at hA hval
  obtain ⟨v0, vs0, d0, ds0, p0, q0, hargs, rfl, rfl, h0, r0⟩ := trodAll_cons hA
  obtain ⟨v1, vs1, d1, ds1, p1, q1, rfl, rfl, rfl, h1, r1⟩ := trodAll_cons r0
  obtain ⟨v2, vs2, d2, ds2, p2, q2, rfl, rfl, rfl, h2, r2⟩ := trodAll_cons r1
  obtain ⟨v3, vs3, d3, ds3, p3, q3, rfl, rfl, rfl, h3, r3⟩ := trodAll_cons r2
  obtain ⟨v4, vs4, d4, ds4, p4, q4, rfl, rfl, rfl, h4, r4⟩ := trodAll_cons r3
  obtain ⟨v5, vs5, d5, ds5, p5, q5, rfl, rfl, rfl, h5, r5⟩ := trodAll_cons r4
  obtain ⟨rfl, rfl, rfl⟩ := trodAll_nil r5
  obtain rfl : args = #[v0, v1, v2, v3, v4, v5] := by cases args; simp_all
  obtain ⟨a0, rfl, rfl, rfl, w0⟩ := open_int Try.underlying3 (hval 0 3 v0 rfl rfl) h0
  obtain ⟨a1, rfl, rfl, rfl, w1⟩ := open_int Try.underlying3 (hval 1 3 v1 rfl rfl) h1
  obtain ⟨a2, rfl, rfl, rfl, w2⟩ := open_int Try.underlying3 (hval 2 3 v2 rfl rfl) h2
  obtain ⟨a3, rfl, rfl, rfl, w3⟩ := open_int Try.underlying3 (hval 3 3 v3 rfl rfl) h3
  obtain ⟨a4, rfl, rfl, rfl, w4⟩ := open_int Try.underlying3 (hval 4 3 v4 rfl rfl) h4
  obtain ⟨a5, rfl, rfl, rfl, w5⟩ := open_int Try.underlying3 (hval 5 3 v5 rfl rfl) h5
  refine (walk a0 a1 a2 a3 a4 a5 W).mono fun e W' ⟨he, hb⟩ => ?_
  subst he
  exact ⟨_, rfl, law_post rfl (by kernel_rfl) (by rw [Try.params5]; intro t ht; simp at ht; subst ht; exact ⟨by kernel_rfl, of_decide_eq_true (by kernel_rfl)⟩) rfl rfl rfl hW' hb⟩

theorem over : Rows.driftGrowsRow.holds Try.pinned (OpenSpec.ofChange Rows.driftGrowsSpec) :=
  OpenClaim.holds_of_wide 5 Try.f5 rfl rfl rfl rfl rfl rfl rfl ⟨rfl, rfl, rfl, rfl, rfl⟩ rfl rfl rfl rfl rfl (by kernel_rfl) Try.func5 (by kernel_rfl)
    (of_decide_eq_true (by kernel_rfl)) (by unfold Func.isWrapper; first | (rw [if_pos (by decide +kernel)]; kernel_rfl) | (rw [if_neg (by decide +kernel)]; exact ⟨rfl, rfl⟩))
    (fun os started H enc _ => lifted os started H enc)

/-- THE STATEMENT -/
theorem proved : Rows.DriftGrowsSaid :=
  over
#print axioms proved
end Go.Proofs.Ytjdefiiinameiaa.driftGrows
