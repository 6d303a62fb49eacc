/- DriftCompares returns true for every input: whether two clocks differ by at most a skew, or the error. -/
import Derived.Test.YtjdefiiinameiaaNil
import Derived.Test.YtjdefiiinameiaaRexc
import Derived.Test.YtjdefiiinameiaaLawKit
import Derived.Lib.SmallJoins
namespace Go.Proofs.Ytjdefiiinameiaa.driftCompares
open Go.ChangeShapes Go.WideShapes Go.ChangeAt Go.RowKit
set_option linter.unusedVariables false

/-- A clock of the reference in a new block. -/
def bx (w : World) (x y z : Int) : World := w.alloc (.cells #[.int .i64 x, .int .i64 y, .int .i64 z] 27)
theorem bx_size (w : World) (x y z : Int) : (bx w x y z).heap.size = w.heap.size + 1 := by simp [bx]
theorem bx_below (w : World) (x y z : Int) : Below w.heap.size w (bx w x y z) := (Below.refl _ _).alloc (Nat.le_refl _) _
theorem bx_cells {w w2 : World} {x y z : Int} (hb : Below (bx w x y z).heap.size (bx w x y z) w2) :
    w2.cell? ⟨w.heap.size, 0, none⟩ = some (.int .i64 x) ∧ w2.cell? ⟨w.heap.size, 1, none⟩ = some (.int .i64 y) ∧ w2.cell? ⟨w.heap.size, 2, none⟩ = some (.int .i64 z) := box_cells hb
theorem bx2_cells {w w2 : World} {x y z x' y' z' : Int} (hb : Below (bx (bx w x y z) x' y' z').heap.size (bx (bx w x y z) x' y' z') w2) :
    (w2.cell? ⟨w.heap.size, 0, none⟩ = some (.int .i64 x) ∧ w2.cell? ⟨w.heap.size, 1, none⟩ = some (.int .i64 y) ∧ w2.cell? ⟨w.heap.size, 2, none⟩ = some (.int .i64 z)) ∧
    (w2.cell? ⟨w.heap.size + 1, 0, none⟩ = some (.int .i64 x') ∧ w2.cell? ⟨w.heap.size + 1, 1, none⟩ = some (.int .i64 y') ∧ w2.cell? ⟨w.heap.size + 1, 2, none⟩ = some (.int .i64 z')) := by
  have h1 := bx_below (bx w x y z) x' y' z'
  have h2 := bx_cells hb
  rw [bx_size] at h2
  exact ⟨bx_cells (h1.trans (hb.mono h1.size)), h2⟩

/-- New of the program at any numbers. -/
def NewA (x y z : Int) (w : World) (e : Ending) (w' : World) : Prop :=
  ∃ a : Option Addr, ∃ c : Int, e = .returned (.tuple #[.pointer a, .int .i64 c]) ∧ Below w.heap.size w w' ∧ ((Okc x y z ∧ c = 0 ∧ ∃ b : Nat, a = some ⟨b, 0, none⟩ ∧ Clk w' b x y z) ∨ (¬ Okc x y z ∧ c = 2 ∧ a = none))
theorem new_any (x y z : Int) (w : World) : Calls Try.prog 8 #[.int .i64 x, .int .i64 y, .int .i64 z] w (NewA x y z w) := by
  by_cases h : okB x y z = true
  · exact (new_ok (okB_true h) w).mono fun e w' ⟨b, he, _, hc, hb⟩ => ⟨_, _, he, hb, .inl ⟨okB_true h, rfl, b, rfl, hc⟩⟩
  · exact (new_no (Bool.eq_false_iff.2 h) w).mono fun e w' ⟨he, hb⟩ => ⟨_, _, he, hb, .inr ⟨fun o => h (okB_mk o), rfl, rfl⟩⟩
def RNewA (x y z : Int) (w : World) (e : Ending) (w' : World) : Prop :=
  ∃ x' y' z' c : Int, e = .returned (.tuple #[.agg #[.int .i64 x', .int .i64 y', .int .i64 z'], .int .i64 c]) ∧ Below w.heap.size w w' ∧ ((Okc x y z ∧ c = 0 ∧ x' = x ∧ y' = y ∧ z' = z) ∨ (¬ Okc x y z ∧ c = 2))
theorem rnew_any (x y z : Int) (w : World) : Calls Try.prog 9 #[.int .i64 x, .int .i64 y, .int .i64 z] w (RNewA x y z w) := by
  by_cases h : okB x y z = true
  · exact (rnew_ok (okB_true h) w).mono fun e w' ⟨he, hb⟩ => ⟨_, _, _, _, he, hb, .inl ⟨okB_true h, rfl, rfl, rfl, rfl⟩⟩
  · exact (rnew_no (Bool.eq_false_iff.2 h) w).mono fun e w' ⟨he, hb⟩ => ⟨_, _, _, _, he, hb, .inr ⟨fun o => h (okB_mk o), rfl⟩⟩

set_option maxRecDepth 100000 in
set_option maxHeartbeats 2000000 in
theorem walk (x y z x' y' z' t k : Int) (w : World) :
    Calls Try.prog 6 #[.agg #[.int .i64 x, .int .i64 y, .int .i64 z], .agg #[.int .i64 x', .int .i64 y', .int .i64 z'], .int .i64 t, .int .i64 k] w fun e w' => e = .returned (.bool true) ∧ Below w.heap.size w w' := by
  have hw0 : Below w.heap.size w (bx (bx w x y z) x' y' z') := (bx_below w x y z).trans ((bx_below _ x' y' z').mono (bx_below w x y z).size)
  go_enter Try.func6, Try.ntmps6
  go_wp2_with fail
  refine (new_any x y z _).mono ?_
  rintro e w1 ⟨a, c, rfl, hb1, hA⟩
  replace hb1 : Below (bx (bx w x y z) x' y' z').heap.size (bx (bx w x y z) x' y' z') w1 := hb1
  obtain ⟨⟨k0, k1, k2⟩, ⟨k3, k4, k5⟩⟩ := bx2_cells hb1
  go_wp2_with fail
  refine (new_any x' y' z' _).mono ?_
  rintro e w2 ⟨d, f, rfl, hb2, hD⟩
  have hbb2 := hb1.trans (hb2.mono hb1.size)
  clear k0 k1 k2 k3 k4 k5
  obtain ⟨⟨k0, k1, k2⟩, ⟨k3, k4, k5⟩⟩ := bx2_cells hbb2
  go_wp2_with fail
  refine (rnew_any x y z _).mono ?_
  rintro e w3 ⟨rx, ry, rz, g, rfl, hb3, hR⟩
  have hbb3 := hbb2.trans (hb3.mono hbb2.size)
  have hb3' := bx_below w3 rx ry rz
  have hbb3' := hbb3.trans (hb3'.mono hbb3.size)
  clear k0 k1 k2 k3 k4 k5
  obtain ⟨⟨k0, k1, k2⟩, ⟨k3, k4, k5⟩⟩ := bx2_cells hbb3'
  unfold bx at k3 k4 k5
  go_wp2_with fail
  refine (rnew_any x' y' z' _).mono ?_
  rintro e w4 ⟨rx', ry', rz', j, rfl, hb4, hS⟩
  clear k0 k1 k2 k3 k4 k5
  have hb5 := bx_below w4 rx' ry' rz'
  have hAll : Below w.heap.size w (bx w4 rx' ry' rz') := hw0.trans ((hbb3'.trans ((hb4.trans (hb5.mono hb4.size)).mono hbb3'.size)).mono hw0.size)
  have hFar : Below w1.heap.size w1 (bx w4 rx' ry' rz') := (hb2.trans ((hb3.trans ((hb3'.trans ((hb4.trans (hb5.mono hb4.size)).mono hb3'.size)).mono hb3.size)).mono hb2.size))
  have hFar2 : Below w2.heap.size w2 (bx w4 rx' ry' rz') := hb3.trans ((hb3'.trans ((hb4.trans (hb5.mono hb4.size)).mono hb3'.size)).mono hb3.size)
  have hB3 : Below (bx w3 rx ry rz).heap.size (bx w3 rx ry rz) (bx w4 rx' ry' rz') := hb4.trans (hb5.mono hb4.size)
  clear hb1 hb2 hb3 hb4 hb5 hbb2 hbb3 hb3' hbb3' hw0
  rcases hA with ⟨o1, rfl, b, rfl, c1⟩ | ⟨n1, rfl, rfl⟩
  · rcases hR with ⟨_, rfl, rfl, rfl, rfl⟩ | ⟨n, _⟩
    · rcases hD with ⟨o2, rfl, b2, rfl, c2⟩ | ⟨n2, rfl, rfl⟩
      · rcases hS with ⟨_, rfl, rfl, rfl, rfl⟩ | ⟨n, _⟩
        · replace c1 := c1.below hFar
          replace c2 := c2.below hFar2
          clear hFar hFar2
          by_cases hk : k < 0
          · go_wp2_with fail
            refine (within_arg c1 c2 t k hk).mono ?_
            rintro e w5 ⟨rfl, rfl⟩
            go_wp2_with fail
            refine (known_any _).mono ?_
            rintro e w6 ⟨rfl, hb6⟩
            go_wp2_with fail
            go_ret
            exact ⟨rfl, hAll.trans (hb6.mono hAll.size)⟩
          · go_wp2_with fail
            refine (within_any c1 o1 c2 o2 t k (by omega)).mono ?_
            rintro e w5 ⟨rfl, hb5⟩
            replace hb5 : Below (bx w4 rx' ry' rz').heap.size (bx w4 rx' ry' rz') w5 := hb5
            have hAll5 := hAll.trans (hb5.mono hAll.size)
            obtain ⟨k0, k1, k2⟩ := bx_cells (hB3.trans (hb5.mono hB3.size))
            go_wp2_with fail
            refine (rshow_any o1 t _).mono ?_
            rintro e w6 ⟨rfl, hb6⟩
            have hb56 := hb5.trans (hb6.mono hb5.size)
            have hAll6 := hAll5.trans (hb6.mono hAll5.size)
            clear k0 k1 k2
            obtain ⟨k0, k1, k2⟩ := bx_cells hb56
            go_wp2_with fail
            refine (rshow_any o2 t _).mono ?_
            rintro e w7 ⟨rfl, hb7⟩
            have hAll7 := hAll6.trans (hb7.mono hAll6.size)
            clear k0 k1 k2 hb5 hb6 hb56 hAll5 hAll6 hB3 hb7 hAll
            rcases sh_two rx ry rz t with ⟨e1, e2⟩ | ⟨e1, e2, v1, v2, t1, t2, t3⟩
            · obtain ⟨s, hsE⟩ : ∃ s, shE rx ry rz t = s := ⟨_, rfl⟩
              have hne : (s != 0) = true := by rw [hsE] at e1; rcases e1 with rfl | rfl <;> decide
              have hw1 : wiB rx ry rz rx' ry' rz' t k = false := by
                have : ¬ shE rx ry rz t = 0 := by omega
                simp [wiB, this]
              have hw2 : wiE rx ry rz rx' ry' rz' t = s := by rw [wiE, if_neg (by omega), hsE]
              rw [hw1, hw2, hsE]
              clear e1 e2 hw1 hw2 hsE o1 o2 c1 c2
              go_wp2_with fail
              refine (known_any _).mono ?_
              rintro e w8 ⟨rfl, hb8⟩
              go_wp2_with fail
              go_ret
              exact ⟨rfl, hAll7.trans (hb8.mono hAll7.size)⟩
            · rcases sh_two rx' ry' rz' t with ⟨d1, d2⟩ | ⟨d1, d2, u1, u2, q1, q2, q3⟩
              · obtain ⟨s, hsE⟩ : ∃ s, shE rx' ry' rz' t = s := ⟨_, rfl⟩
                have hne : (s != 0) = true := by rw [hsE] at d1; rcases d1 with rfl | rfl <;> decide
                have hw1 : wiB rx ry rz rx' ry' rz' t k = false := by
                  have : ¬ shE rx' ry' rz' t = 0 := by omega
                  simp [wiB, this]
                have hw2 : wiE rx ry rz rx' ry' rz' t = s := by rw [wiE, if_pos e1, hsE]
                rw [hw1, hw2, hsE, e1]
                clear e1 e2 d1 d2 hw1 hw2 hsE o1 o2 c1 c2
                go_wp2_with fail
                refine (known_any _).mono ?_
                rintro e w8 ⟨rfl, hb8⟩
                go_wp2_with fail
                go_ret
                exact ⟨rfl, hAll7.trans (hb8.mono hAll7.size)⟩
              · have hw2 : wiE rx ry rz rx' ry' rz' t = 0 := by rw [wiE, if_pos e1, d1]
                have hw1 : wiB rx ry rz rx' ry' rz' t k = (decide (val rx ry rz t - val rx' ry' rz' t ≤ k) && decide (val rx' ry' rz' t - val rx ry rz t ≤ k)) := by simp [wiB, e1, d1]
                rw [hw1, hw2, e1, d1, e2, d2]
                clear e1 e2 d1 d2 hw1 hw2 o1 o2 c1 c2
                go_wp2_with fail
                all_goals refine (known_any _).mono ?_
                all_goals rintro e w8 ⟨rfl, hb8⟩
                all_goals go_wp2_with fail
                all_goals go_ret
                all_goals exact ⟨rfl, hAll7.trans (hb8.mono hAll7.size)⟩
        · exact absurd o2 n
      · rcases hS with ⟨o, _⟩ | ⟨_, rfl⟩
        · exact absurd o n2
        · replace c1 := c1.below hFar
          have hn : Nil (bx w4 rx' ry' rz') none := .inl rfl
          go_wp2_with fail
          refine (within_nil c1 hn t k).mono ?_
          rintro e w5 ⟨rfl, rfl⟩
          go_wp2_with fail
          refine (known_any _).mono ?_
          rintro e w6 ⟨rfl, hb6⟩
          go_wp2_with fail
          go_ret
          exact ⟨rfl, hAll.trans (hb6.mono hAll.size)⟩
    · exact absurd o1 n
  · rcases hR with ⟨o, _⟩ | ⟨_, rfl⟩
    · exact absurd o n1
    · have hfj : f = j := by
        rcases hD with ⟨o2, rfl, _⟩ | ⟨n2, rfl, _⟩ <;> rcases hS with ⟨o3, rfl, _⟩ | ⟨n3, rfl⟩ <;> first | rfl | exact absurd o2 n3 | exact absurd o3 n2
      subst hfj
      clear hD hS
      go_wp2_with fail
      refine (known_any _).mono ?_
      rintro e w6 ⟨rfl, hb6⟩
      go_wp2_with fail
      go_ret
      exact ⟨rfl, hAll.trans (hb6.mono hAll.size)⟩

theorem cells27 : Try.prog.cellsOf 27 = 3 := by kernel_rfl

set_option maxRecDepth 100000 in
theorem lifted (os : Os) (started : os.Started) (H : Type) (enc : TypeId × Value → H) :
    ReturnsInHanded {} Try.checked os 6 .any (Rows.driftComparesSpec.pre6 enc Try.prog Try.f6 Rows.driftComparesRow.domain false) (Rows.driftComparesSpec.post enc Try.prog Try.f6 false true false false) := by
  refine returnsInHanded_of_change (C := Try.checked) own started (by kernel_rfl) Try.func6
    (ChangeSpec.witness6 (enc := enc) (C := Try.checked) false ⟨#[], #[.agg #[.int .i64 0, .int .i64 0, .int .i64 0], .agg #[.int .i64 0, .int .i64 0, .int .i64 0], .int .i64 0, .int .i64 0], []⟩ 8 (by kernel_rfl) (by kernel_rfl) (by kernel_rfl) (by kernel_rfl)) ?_
  intro W base args ds gs before hval0 hW hcnd _
  have hval : ∀ (j : Nat) t v, Try.f6.params[j]? = some t → args[j]? = some v → Value.okWide Try.prog W .any base t v := hval0
  have hW' := hW
  obtain ⟨p, q, hA0, hV, rfl, hfz, hnd⟩ := hW
  have hA : DataW.TrodAll enc Try.prog W 0 (fun _ => true) true Try.f6.params.toList args.toList ds p := hA0
  rw [Try.params6] at hA hval
  obtain ⟨v0, vs0, d0, ds0, p0, q0, hargs, rfl, rfl, h0, r0⟩ := trodAll_cons hA
  obtain ⟨v1, vs1, d1, ds1, p1, q1, rfl, rfl, rfl, h1, r1⟩ := trodAll_cons r0
  obtain ⟨v2, vs2, d2, ds2, p2, q2, rfl, rfl, rfl, h2, r2⟩ := trodAll_cons r1
  obtain ⟨v3, vs3, d3, ds3, p3, q3, rfl, rfl, rfl, h3, r3⟩ := trodAll_cons r2
  obtain ⟨rfl, rfl, rfl⟩ := trodAll_nil r3
  obtain rfl : args = #[v0, v1, v2, v3] := by cases args; simp_all
  obtain ⟨c0, c1, c2, y0, y1, y2, m, rfl, rfl, rfl, g0, g1, g2⟩ := Joins.open_agg3 Try.underlying27 (by kernel_rfl) cells27 (hval 0 27 v0 rfl rfl) h0
  obtain ⟨x, e0, rfl, wx⟩ := DataW.trod_int Try.underlying3 g0
  obtain ⟨y, e1, rfl, wy⟩ := DataW.trod_int Try.underlying3 g1
  obtain ⟨z, e2, rfl, wz⟩ := DataW.trod_int Try.underlying3 g2
  simp at e0 e1 e2
  subst e0 e1 e2
  obtain ⟨c0', c1', c2', y0', y1', y2', m', rfl, rfl, rfl, g0', g1', g2'⟩ := Joins.open_agg3 Try.underlying27 (by kernel_rfl) cells27 (hval 1 27 v1 rfl rfl) h1
  obtain ⟨x', e0', rfl, wx'⟩ := DataW.trod_int Try.underlying3 g0'
  obtain ⟨y', e1', rfl, wy'⟩ := DataW.trod_int Try.underlying3 g1'
  obtain ⟨z', e2', rfl, wz'⟩ := DataW.trod_int Try.underlying3 g2'
  simp at e0' e1' e2'
  subst e0' e1' e2'
  obtain ⟨a2, rfl, rfl, rfl, w2⟩ := open_int Try.underlying3 (hval 2 3 v2 rfl rfl) h2
  obtain ⟨a3, rfl, rfl, rfl, w3⟩ := open_int Try.underlying3 (hval 3 3 v3 rfl rfl) h3
  refine (walk x y z x' y' z' a2 a3 W).mono fun e W' ⟨he, hb⟩ => ?_
  subst he
  exact ⟨_, rfl, law_post rfl (by kernel_rfl) (by rw [Try.params6]; intro t ht; simp at ht; rcases ht with rfl | rfl <;> exact ⟨by kernel_rfl, of_decide_eq_true (by kernel_rfl)⟩) rfl rfl rfl hW' hb⟩

theorem over : Rows.driftComparesRow.holds Try.pinned (OpenSpec.ofChange Rows.driftComparesSpec) :=
  OpenClaim.holds_of_wide 6 Try.f6 rfl rfl rfl rfl rfl rfl rfl ⟨rfl, rfl, rfl, rfl, rfl⟩ rfl rfl rfl rfl rfl (by kernel_rfl) Try.func6 (by kernel_rfl)
    (of_decide_eq_true (by kernel_rfl)) (by unfold Func.isWrapper; first | (rw [if_pos (by decide +kernel)]; kernel_rfl) | (rw [if_neg (by decide +kernel)]; exact ⟨rfl, rfl⟩))
    (fun os started H enc _ => lifted os started H enc)

/-- THE STATEMENT -/
theorem proved : Rows.DriftComparesSaid :=
  over
#print axioms proved
end Go.Proofs.Ytjdefiiinameiaa.driftCompares
