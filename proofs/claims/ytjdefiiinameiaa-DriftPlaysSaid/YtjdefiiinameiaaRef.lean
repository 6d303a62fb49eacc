/- The reference's functions: Value, Show, over, New. -/
import Derived.Test.YtjdefiiinameiaaExc
namespace Go.Proofs.Ytjdefiiinameiaa
open Go.RowKit

set_option maxHeartbeats 400000 in
theorem rvalue_any {x y z : Int} (o : Okc x y z) (t : Int) (t0 : 0 ≤ t) (t1 : t ≤ 1099512627776) (w : World) :
    Calls Try.prog 34 #[.agg #[.int .i64 x, .int .i64 y, .int .i64 z], .int .i64 t] w fun e w' => e = .returned (.int .i64 (val x y z t)) ∧ Below w.heap.size w w' := by
  obtain ⟨a0, a1, s0, s1, r0, r1⟩ := o
  have hp := prod_bd (d := t - x) (z := z) (by omega) (by omega) r0 r1
  obtain ⟨p0, p1⟩ := hp
  by_cases hp0 : 0 ≤ (t - x) * z
  · go_enter Try.func34, Try.ntmps34
    go_wp2
    go_rounds 1
    go_ret
    exact ⟨ret_int (by unfold val; omega), (Below.refl _ _).alloc (Nat.le_refl _) _⟩
  · have hq := tdiv_neg ((t - x) * z) (by omega)
    by_cases hm : ((t - x) * z).tmod 1000000 < 0
    · rw [if_pos hm] at hq
      have hd1 : ((t - x) * z) / 1000000 * 1000000 ≤ (t - x) * z := by omega
      have hd2 : (t - x) * z < (((t - x) * z) / 1000000 + 1) * 1000000 := by omega
      go_enter Try.func34, Try.ntmps34
      go_wp2
      clear hq hm
      go_rounds 2
      go_ret
      exact ⟨ret_int (by unfold val; omega), (Below.refl _ _).alloc (Nat.le_refl _) _⟩
    · rw [if_neg hm] at hq
      have hd1 : ((t - x) * z) / 1000000 * 1000000 ≤ (t - x) * z := by omega
      go_enter Try.func34, Try.ntmps34
      go_wp2
      clear hq hm
      go_rounds 1
      go_ret
      exact ⟨ret_int (by unfold val; omega), (Below.refl _ _).alloc (Nat.le_refl _) _⟩

/-- A world with a block of numbers more, and what came of it. -/
theorem below_one {w w' : World} (ob : Obj) (hb : Below (w.alloc ob).heap.size (w.alloc ob) w') : Below w.heap.size w w' :=
  ((Below.refl _ _).alloc (Nat.le_refl _) ob).trans (hb.mono (by simp))

set_option maxHeartbeats 400000 in
theorem rshow_any {x y z : Int} (o : Okc x y z) (t : Int) (w : World) :
    Calls Try.prog 20 #[.agg #[.int .i64 x, .int .i64 y, .int .i64 z], .int .i64 t] w fun e w' => e = .returned (.tuple #[.int .i64 (shV x y z t), .int .i64 (shE x y z t)]) ∧ Below w.heap.size w w' := by
  rcases sh_cases x y z t with ⟨c1, c2, c3, c4⟩ | ⟨c1, c2, c3, c4, c5⟩ | ⟨c1, c2, c3, c4, c5, c6⟩ | ⟨c1, c2, c3, c4, c5, c6⟩
  · rw [c3, c4]
    have H1 := Lib.hid c1
    clear c1 c2 c3 c4
    go_enter Try.func20, Try.ntmps20
    go_wp2_with fail
    refine (rtime_any _ _).mono ?_
    rintro e w1 ⟨rfl, rfl⟩
    rw [H1.out]
    go_wp2_with fail
    go_ret2
    exact ⟨rfl, (Below.refl _ _).alloc (Nat.le_refl _) _⟩
  · rw [c4, c5]
    have H1 := Lib.hid c1
    clear c1 c3 c4 c5
    go_enter Try.func20, Try.ntmps20
    go_wp2_with fail
    refine (rtime_any _ _).mono ?_
    rintro e w1 ⟨rfl, rfl⟩
    rw [H1.out]
    go_wp2_with fail
    go_ret2
    exact ⟨rfl, (Below.refl _ _).alloc (Nat.le_refl _) _⟩
  · rw [c5, c6]
    have hr := tmB_true c1
    have H1 := Lib.hid c1
    have H3 := Lib.hid c3
    clear c1 c3 c4 c5 c6
    go_enter Try.func20, Try.ntmps20
    go_wp2_with fail
    refine (rtime_any _ _).mono ?_
    rintro e w1 ⟨rfl, rfl⟩
    rw [H1.out]
    go_wp2_with fail
    refine (rvalue_any o t hr.1 (by omega) _).mono ?_
    rintro e w2 ⟨rfl, hb2⟩
    go_wp2_with fail
    refine (rtime_any _ _).mono ?_
    rintro e w3 ⟨rfl, rfl⟩
    rw [H3.out]
    go_wp2_with fail
    go_ret2
    exact ⟨rfl, below_one _ hb2⟩
  · rw [c5, c6]
    have hr := tmB_true c1
    have H1 := Lib.hid c1
    have H3 := Lib.hid c3
    clear c1 c3 c4 c5 c6
    go_enter Try.func20, Try.ntmps20
    go_wp2_with fail
    refine (rtime_any _ _).mono ?_
    rintro e w1 ⟨rfl, rfl⟩
    rw [H1.out]
    go_wp2_with fail
    refine (rvalue_any o t hr.1 (by omega) _).mono ?_
    rintro e w2 ⟨rfl, hb2⟩
    go_wp2_with fail
    refine (rtime_any _ _).mono ?_
    rintro e w3 ⟨rfl, rfl⟩
    rw [H3.out]
    have hbA := below_one _ hb2
    have k0 : w2.cell? ⟨w.heap.size, 0, none⟩ = some (.int .i64 x) := by rw [hb2.cell (by simp)]; simp
    have k1 : w2.cell? ⟨w.heap.size, 1, none⟩ = some (.int .i64 y) := by rw [hb2.cell (by simp)]; simp
    have k2 : w2.cell? ⟨w.heap.size, 2, none⟩ = some (.int .i64 z) := by rw [hb2.cell (by simp)]; simp
    go_wp2_with fail
    refine (rvalue_any o t hr.1 (by omega) _).mono ?_
    rintro e w4 ⟨rfl, hb4⟩
    go_wp2_with fail
    go_ret2
    exact ⟨rfl, hbA.trans (hb4.mono hbA.size)⟩

set_option maxHeartbeats 400000 in
theorem rover_any {x y z : Int} (o : Okc x y z) (t k : Int) (t0 : 0 ≤ t) (t1 : t ≤ 1099511627776) (w : World) :
    Calls Try.prog 31 #[.agg #[.int .i64 x, .int .i64 y, .int .i64 z], .int .i64 t, .int .i64 k] w fun e w' => e = .returned (.bool (ovB x y z k t)) ∧ Below w.heap.size w w' := by
  have hv := o.val_bd t t0 t1
  obtain ⟨v1, v2⟩ := hv
  by_cases h1 : k < val x y z t - t
  · rw [ov_mk (.inl h1)]
    go_enter Try.func31, Try.ntmps31
    go_wp2_with fail
    refine (rvalue_any o t t0 (by omega) _).mono ?_
    rintro e w2 ⟨rfl, hb2⟩
    go_wp2_with fail
    go_ret
    exact ⟨rfl, below_one _ hb2⟩
  · go_enter Try.func31, Try.ntmps31
    go_wp2_with fail
    refine (rvalue_any o t t0 (by omega) _).mono ?_
    rintro e w2 ⟨rfl, hb2⟩
    go_wp2_with fail
    go_ret
    exact ⟨rfl, below_one _ hb2⟩

/-- The numbers of a clock are in range. -/
def okB (x y z : Int) : Bool := tmB x && tmB y && rtB z
theorem okB_true {x y z : Int} (h : okB x y z = true) : Okc x y z := by
  simp only [okB, Bool.and_eq_true] at h
  have a := tmB_true h.1.1
  have b := tmB_true h.1.2
  have c := rtB_true h.2
  exact ⟨a.1, a.2, b.1, b.2, c.1, c.2⟩
theorem okB_mk {x y z : Int} (h : Okc x y z) : okB x y z = true := by
  simp only [okB, tmB_mk ⟨h.a0, h.a1⟩, tmB_mk ⟨h.s0, h.s1⟩, rtB_mk ⟨h.r0, h.r1⟩, Bool.and_self]
set_option maxHeartbeats 400000 in
theorem rnew_ok {x y z : Int} (o : Okc x y z) (w : World) :
    Calls Try.prog 9 #[.int .i64 x, .int .i64 y, .int .i64 z] w fun e w' => e = .returned (.tuple #[.agg #[.int .i64 x, .int .i64 y, .int .i64 z], .int .i64 0]) ∧ Below w.heap.size w w' := by
  obtain ⟨a0, a1, s0, s1, r0, r1⟩ := o
  have H1 := Lib.hid (tmB_mk ⟨a0, a1⟩)
  have H2 := Lib.hid (tmB_mk ⟨s0, s1⟩)
  go_enter Try.func9, Try.ntmps9
  go_wp2_with fail
  refine (rtime_any _ _).mono ?_
  rintro e w1 ⟨rfl, rfl⟩
  rw [H1.out]
  go_wp2_with fail
  refine (rtime_any _ _).mono ?_
  rintro e w1 ⟨rfl, rfl⟩
  rw [H2.out]
  go_wp2_with fail
  exact bodyPost_ret (v := .tuple #[.agg #[.int .i64 x, .int .i64 y, .int .i64 z], .int .i64 0]) (by simp [results, Try.results9, go_sem]) rfl ⟨rfl, (Below.refl _ _).alloc (Nat.le_refl _) _⟩

set_option maxHeartbeats 400000 in
theorem rnew_no {x y z : Int} (o : okB x y z = false) (w : World) :
    Calls Try.prog 9 #[.int .i64 x, .int .i64 y, .int .i64 z] w fun e w' => e = .returned (.tuple #[.agg #[.int .i64 0, .int .i64 0, .int .i64 0], .int .i64 2]) ∧ Below w.heap.size w w' := by
  by_cases h1 : tmB x = true
  · by_cases h2 : tmB y = true
    · have h3 : rtB z = false := by simpa [okB, h1, h2] using o
      have h4 := rtB_false h3
      have H1 := Lib.hid h1
      have H2 := Lib.hid h2
      clear h1 h2 h3 o
      rcases h4 with h4 | h4
      · go_enter Try.func9, Try.ntmps9
        go_wp2_with fail
        refine (rtime_any _ _).mono ?_
        rintro e w1 ⟨rfl, rfl⟩
        rw [H1.out]
        go_wp2_with fail
        refine (rtime_any _ _).mono ?_
        rintro e w1 ⟨rfl, rfl⟩
        rw [H2.out]
        go_wp2_with fail
        exact bodyPost_ret (v := .tuple #[.agg #[.int .i64 0, .int .i64 0, .int .i64 0], .int .i64 2]) (by simp [results, Try.results9, go_sem]) rfl ⟨rfl, (Below.refl _ _).alloc (Nat.le_refl _) _⟩
      · go_enter Try.func9, Try.ntmps9
        go_wp2_with fail
        refine (rtime_any _ _).mono ?_
        rintro e w1 ⟨rfl, rfl⟩
        rw [H1.out]
        go_wp2_with fail
        refine (rtime_any _ _).mono ?_
        rintro e w1 ⟨rfl, rfl⟩
        rw [H2.out]
        go_wp2_with fail
        exact bodyPost_ret (v := .tuple #[.agg #[.int .i64 0, .int .i64 0, .int .i64 0], .int .i64 2]) (by simp [results, Try.results9, go_sem]) rfl ⟨rfl, (Below.refl _ _).alloc (Nat.le_refl _) _⟩
    · have H1 := Lib.hid h1
      have H2 := Lib.hid (Bool.eq_false_iff.2 h2)
      clear h1 h2 o
      go_enter Try.func9, Try.ntmps9
      go_wp2_with fail
      refine (rtime_any _ _).mono ?_
      rintro e w1 ⟨rfl, rfl⟩
      rw [H1.out]
      go_wp2_with fail
      refine (rtime_any _ _).mono ?_
      rintro e w1 ⟨rfl, rfl⟩
      rw [H2.out]
      go_wp2_with fail
      exact bodyPost_ret (v := .tuple #[.agg #[.int .i64 0, .int .i64 0, .int .i64 0], .int .i64 2]) (by simp [results, Try.results9, go_sem]) rfl ⟨rfl, (Below.refl _ _).alloc (Nat.le_refl _) _⟩
  · have H1 := Lib.hid (Bool.eq_false_iff.2 h1)
    clear h1 o
    go_enter Try.func9, Try.ntmps9
    go_wp2_with fail
    refine (rtime_any _ _).mono ?_
    rintro e w1 ⟨rfl, rfl⟩
    rw [H1.out]
    go_wp2_with fail
    exact bodyPost_ret (v := .tuple #[.agg #[.int .i64 0, .int .i64 0, .int .i64 0], .int .i64 2]) (by simp [results, Try.results9, go_sem]) rfl ⟨rfl, (Below.refl _ _).alloc (Nat.le_refl _) _⟩
end Go.Proofs.Ytjdefiiinameiaa
