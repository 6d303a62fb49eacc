/- DriftExceeds returns true for every input: the first time at which the deviation exceeds a skew is the reference's. -/
import Derived.Test.YtjdefiiinameiaaKnown
import Derived.Test.YtjdefiiinameiaaRexc
import Derived.Test.YtjdefiiinameiaaLawKit
namespace Go.Proofs.Ytjdefiiinameiaa.driftExceeds
open Go.ChangeShapes Go.WideShapes Go.ChangeAt Go.RowKit
set_option linter.unusedVariables false

set_option maxHeartbeats 1000000 in
theorem walk_no (x y z t k : Int) (ho : okB x y z = false) (w : World) :
    Calls Try.prog 3 #[.int .i64 x, .int .i64 y, .int .i64 z, .int .i64 t, .int .i64 k] w fun e w' => e = .returned (.bool true) ∧ Below w.heap.size w w' := by
  go_enter Try.func3, Try.ntmps3
  go_wp2_with fail
  refine (new_no ho w).mono ?_
  rintro e w1 ⟨rfl, hb1⟩
  go_wp2_with fail
  refine (rnew_no ho w1).mono ?_
  rintro e w2 ⟨rfl, hb2⟩
  have hb3 := (hb1.trans (hb2.mono hb1.size)).alloc (Nat.le_trans hb1.size hb2.size) (.cells #[.int .i64 0, .int .i64 0, .int .i64 0] 27)
  clear hb1 hb2
  go_wp2_with fail
  refine (known_any _).mono ?_
  rintro e w4 ⟨rfl, hb4⟩
  go_wp2_with fail
  go_ret
  exact ⟨rfl, hb3.trans (hb4.mono hb3.size)⟩

set_option maxHeartbeats 1000000 in
theorem walk_ok (x y z t k : Int) (o : Okc x y z) (w : World) :
    Calls Try.prog 3 #[.int .i64 x, .int .i64 y, .int .i64 z, .int .i64 t, .int .i64 k] w fun e w' => e = .returned (.bool true) ∧ Below w.heap.size w w' := by
  go_enter Try.func3, Try.ntmps3
  go_wp2_with fail
  refine (new_ok o w).mono ?_
  rintro e w1 ⟨b, rfl, hbB, h1, hb1⟩
  go_wp2_with fail
  refine (rnew_ok o w1).mono ?_
  rintro e w2 ⟨rfl, hb2⟩
  have hbx : Below w2.heap.size w2 (w2.alloc (.cells #[.int .i64 x, .int .i64 y, .int .i64 z] 27)) := (Below.refl _ _).alloc (Nat.le_refl _) _
  have h3 := (h1.below hb2).below hbx
  have hb3 := (hb1.trans (hb2.mono hb1.size)).trans (hbx.mono (Nat.le_trans hb1.size hb2.size))
  clear hb1 hb2 hbx h1
  go_wp2_with fail
  refine (exc_any h3 o k t).mono ?_
  rintro e w4 ⟨r, c, rfl, hA, hb4⟩
  obtain ⟨k0, k1, k2⟩ := box_cells hb4
  have hb5 := hb3.trans (hb4.mono hb3.size)
  clear hb4 hb3 h3
  go_wp2_with fail
  refine (rexc_any o k t _).mono ?_
  rintro e w5 ⟨r', c', rfl, hA', hb6⟩
  obtain ⟨e1, e2⟩ := hA.unique hA'
  subst e1 e2
  have hb7 := hb5.trans (hb6.mono hb5.size)
  clear hA hA' hb6 hb5 k0 k1 k2
  go_wp2_with fail
  refine (known_any _).mono ?_
  rintro e w8 ⟨rfl, hb8⟩
  go_wp2_with fail
  go_ret
  exact ⟨rfl, hb7.trans (hb8.mono hb7.size)⟩

theorem walk (x y z t k : Int) (w : World) :
    Calls Try.prog 3 #[.int .i64 x, .int .i64 y, .int .i64 z, .int .i64 t, .int .i64 k] w fun e w' => e = .returned (.bool true) ∧ Below w.heap.size w w' := by
  by_cases h : okB x y z = true
  · exact walk_ok x y z t k (okB_true h) w
  · exact walk_no x y z t k (Bool.eq_false_iff.2 h) w

set_option maxRecDepth 100000 in
theorem lifted (os : Os) (started : os.Started) (H : Type) (enc : TypeId × Value → H) :
    ReturnsInHanded {} Try.checked os 3 .any (Rows.driftExceedsSpec.pre6 enc Try.prog Try.f3 Rows.driftExceedsRow.domain false) (Rows.driftExceedsSpec.post enc Try.prog Try.f3 false true false false) := by
  refine returnsInHanded_of_change (C := Try.checked) own started (by kernel_rfl) Try.func3
    (ChangeSpec.witness6 (enc := enc) (C := Try.checked) false ⟨#[], #[.int .i64 0, .int .i64 0, .int .i64 0, .int .i64 0, .int .i64 0], []⟩ 8 (by kernel_rfl) (by kernel_rfl) (by kernel_rfl) (by kernel_rfl)) ?_
  intro W base args ds gs before hval0 hW hcnd _
  have hval : ∀ (j : Nat) t v, Try.f3.params[j]? = some t → args[j]? = some v → Value.okWide Try.prog W .any base t v := hval0
  have hW' := hW
  obtain ⟨p, q, hA0, hV, rfl, hfz, hnd⟩ := hW
  have hA : DataW.TrodAll enc Try.prog W 0 (fun _ => true) true Try.f3.params.toList args.toList ds p := hA0
  rw [Try.params3] at hA hval
  obtain ⟨v0, vs0, d0, ds0, p0, q0, hargs, rfl, rfl, h0, r0⟩ := trodAll_cons hA
  obtain ⟨v1, vs1, d1, ds1, p1, q1, rfl, rfl, rfl, h1, r1⟩ := trodAll_cons r0
  obtain ⟨v2, vs2, d2, ds2, p2, q2, rfl, rfl, rfl, h2, r2⟩ := trodAll_cons r1
  obtain ⟨v3, vs3, d3, ds3, p3, q3, rfl, rfl, rfl, h3, r3⟩ := trodAll_cons r2
  obtain ⟨v4, vs4, d4, ds4, p4, q4, rfl, rfl, rfl, h4, r4⟩ := trodAll_cons r3
  obtain ⟨rfl, rfl, rfl⟩ := trodAll_nil r4
  obtain rfl : args = #[v0, v1, v2, v3, v4] := by cases args; simp_all
  obtain ⟨a0, rfl, rfl, rfl, w0⟩ := open_int Try.underlying3 (hval 0 3 v0 rfl rfl) h0
  obtain ⟨a1, rfl, rfl, rfl, w1⟩ := open_int Try.underlying3 (hval 1 3 v1 rfl rfl) h1
  obtain ⟨a2, rfl, rfl, rfl, w2⟩ := open_int Try.underlying3 (hval 2 3 v2 rfl rfl) h2
  obtain ⟨a3, rfl, rfl, rfl, w3⟩ := open_int Try.underlying3 (hval 3 3 v3 rfl rfl) h3
  obtain ⟨a4, rfl, rfl, rfl, w4⟩ := open_int Try.underlying3 (hval 4 3 v4 rfl rfl) h4
  refine (walk a0 a1 a2 a3 a4 W).mono fun e W' ⟨he, hb⟩ => ?_
  subst he
  exact ⟨_, rfl, law_post rfl (by kernel_rfl) (by rw [Try.params3]; intro t ht; simp at ht; subst ht; exact ⟨by kernel_rfl, of_decide_eq_true (by kernel_rfl)⟩) rfl rfl rfl hW' hb⟩

theorem over : Rows.driftExceedsRow.holds Try.pinned (OpenSpec.ofChange Rows.driftExceedsSpec) :=
  OpenClaim.holds_of_wide 3 Try.f3 rfl rfl rfl rfl rfl rfl rfl ⟨rfl, rfl, rfl, rfl, rfl⟩ rfl rfl rfl rfl rfl (by kernel_rfl) Try.func3 (by kernel_rfl)
    (of_decide_eq_true (by kernel_rfl)) (by unfold Func.isWrapper; first | (rw [if_pos (by decide +kernel)]; kernel_rfl) | (rw [if_neg (by decide +kernel)]; exact ⟨rfl, rfl⟩))
    (fun os started H enc _ => lifted os started H enc)

/-- THE STATEMENT -/
theorem proved : Rows.DriftExceedsSaid :=
  over
#print axioms proved
end Go.Proofs.Ytjdefiiinameiaa.driftExceeds
