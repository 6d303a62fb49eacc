/- NetworkLoops: iterators over a network use the state at the time of the call, may be left early, and may be used again. Condition: none beyond the statement's. -/
import Derived.Test.YtiindnmelegkgaaL1
namespace Go.Proofs.Ytiindnmelegkgaa.networkLoops
open Go.ChangeShapes Go.WideShapes Go.ChangeAt Go.RowKit
set_option linter.unusedSimpArgs false
set_option linter.unusedVariables false

set_option maxHeartbeats 2000000 in
set_option maxRecDepth 100000 in
theorem walk_no (w : World) (v v2 : Value) (l m : List ActA) (h : ActsAt w v l) (h2 : ActsAt w v2 m) (many : Int) (hf : fewA l 20 = false) : Calls Try.prog 7 #[v, v2, .int .i64 many] w fun e w' => e = .returned (.bool true) ∧ Below w.heap.size w w' := by
  obtain ⟨sa, sc, hv⟩ := h.at_.1
  obtain ⟨sb, sd, hv2⟩ := h2.at_.1
  obtain ⟨wB, hwB⟩ : ∃ wB, wB = (w.alloc (.cells #[.int .i64 many] 3)).alloc (.cells #[.bool false] 4) := ⟨_, rfl⟩
  have bB : Below w.heap.size w wB := by rw [hwB]; exact ((Below.refl _ _).alloc (Nat.le_refl _) _).alloc (by simp) _
  have xB2 : wB.heap[w.heap.size + 1]? = some (.cells #[.bool false] 4 (0, 0)) := by rw [hwB]; exact new_at (by simp)
  have HF := Lib.hid (few_any wB v l (h.below bB) 20 (by decide))
  rw [hf] at HF
  generalize l.length = n at hv
  generalize m.length = n' at hv2
  have HBB := Lib.hid bB
  have HX := Lib.hid xB2
  subst hv
  subst hv2
  clear hf h h2 bB xB2
  refine (callsIn_wide (n := 3)).1 ?_
  refine callsIn_of_wp_marks Try.func7 rfl trivial ?_ rfl
  simp only [Try.ntmps7, List.size_toArray, List.length_cons, List.length_nil, Nat.reduceAdd, Nat.reduceSub, Array.replicate_succ, Array.replicate_zero, List.push_toArray, List.append_toArray, List.nil_append, List.cons_append]
  refine wpIn_wide.2 ?_
  go_wp2_with fail
  rw [← hwB]
  clear hwB
  refine HF.out.mono ?_
  rintro e w1 ⟨rfl, rfl⟩
  go_wp2_with fail
  refine (known_any _).mono ?_
  rintro e W7 ⟨rfl, hb7⟩
  have xq := (hb7.block _ (Array.getElem?_eq_some_iff.1 HX.out).1).trans HX.out
  have g0 := frozen_blk xq 0
  have m1 : W7.cell? ⟨w.heap.size + 1, 0, none⟩ = some (.bool false) := by rw [cell_of_row _ _ _ _ _ _ xq]; rfl
  have HXQ := Lib.hid xq
  have bw : Below w.heap.size w (W7.setCell ⟨w.heap.size + 1, 0, none⟩ (.bool true)) := (HBB.out.trans (hb7.mono HBB.out.size)).setCell (p := ⟨_, _, _⟩) (by show w.heap.size ≤ w.heap.size + 1; omega) _
  have HBW := Lib.hid bw
  clear xq hb7 bw
  go_wp2_with fail
  have v6 := set_at (i := 0) (v := .bool true) HXQ.out
  have f0 : (W7.setCell ⟨w.heap.size + 1, 0, none⟩ (.bool true)).cell? ⟨w.heap.size + 1, 0, none⟩ = some (.bool true) := by rw [cell_of_row _ _ _ _ _ _ v6]; rfl
  exact ⟨.bool true, by simp [results, Try.results7, go_sem, f0], rfl, HBW.out⟩
set_option maxHeartbeats 2000000 in
set_option maxRecDepth 100000 in
theorem walk_no2 (w : World) (v v2 : Value) (l m : List ActA) (h : ActsAt w v l) (h2 : ActsAt w v2 m) (many : Int) (hf : fewA l 20 = true) (hf2 : fewA m 20 = false) : Calls Try.prog 7 #[v, v2, .int .i64 many] w fun e w' => e = .returned (.bool true) ∧ Below w.heap.size w w' := by
  obtain ⟨sa, sc, hv⟩ := h.at_.1
  obtain ⟨sb, sd, hv2⟩ := h2.at_.1
  obtain ⟨wB, hwB⟩ : ∃ wB, wB = (w.alloc (.cells #[.int .i64 many] 3)).alloc (.cells #[.bool false] 4) := ⟨_, rfl⟩
  have bB : Below w.heap.size w wB := by rw [hwB]; exact ((Below.refl _ _).alloc (Nat.le_refl _) _).alloc (by simp) _
  have xB2 : wB.heap[w.heap.size + 1]? = some (.cells #[.bool false] 4 (0, 0)) := by rw [hwB]; exact new_at (by simp)
  have HF := Lib.hid (few_any wB v l (h.below bB) 20 (by decide))
  rw [hf] at HF
  have HF2 := Lib.hid (few_any wB v2 m (h2.below bB) 20 (by decide))
  rw [hf2] at HF2
  generalize l.length = n at hv
  generalize m.length = n' at hv2
  have HBB := Lib.hid bB
  have HX := Lib.hid xB2
  subst hv
  subst hv2
  clear hf hf2 h h2 bB xB2
  refine (callsIn_wide (n := 3)).1 ?_
  refine callsIn_of_wp_marks Try.func7 rfl trivial ?_ rfl
  simp only [Try.ntmps7, List.size_toArray, List.length_cons, List.length_nil, Nat.reduceAdd, Nat.reduceSub, Array.replicate_succ, Array.replicate_zero, List.push_toArray, List.append_toArray, List.nil_append, List.cons_append]
  refine wpIn_wide.2 ?_
  go_wp2_with fail
  rw [← hwB]
  clear hwB
  refine HF.out.mono ?_
  rintro e w1 ⟨rfl, rfl⟩
  go_wp2_with fail
  refine HF2.out.mono ?_
  rintro e w1 ⟨rfl, rfl⟩
  go_wp2_with fail
  refine (known_any _).mono ?_
  rintro e W7 ⟨rfl, hb7⟩
  have xq := (hb7.block _ (Array.getElem?_eq_some_iff.1 HX.out).1).trans HX.out
  have g0 := frozen_blk xq 0
  have m1 : W7.cell? ⟨w.heap.size + 1, 0, none⟩ = some (.bool false) := by rw [cell_of_row _ _ _ _ _ _ xq]; rfl
  have HXQ := Lib.hid xq
  have bw : Below w.heap.size w (W7.setCell ⟨w.heap.size + 1, 0, none⟩ (.bool true)) := (HBB.out.trans (hb7.mono HBB.out.size)).setCell (p := ⟨_, _, _⟩) (by show w.heap.size ≤ w.heap.size + 1; omega) _
  have HBW := Lib.hid bw
  clear xq hb7 bw
  go_wp2_with fail
  have v6 := set_at (i := 0) (v := .bool true) HXQ.out
  have f0 : (W7.setCell ⟨w.heap.size + 1, 0, none⟩ (.bool true)).cell? ⟨w.heap.size + 1, 0, none⟩ = some (.bool true) := by rw [cell_of_row _ _ _ _ _ _ v6]; rfl
  exact ⟨.bool true, by simp [results, Try.results7, go_sem, f0], rfl, HBW.out⟩
theorem walk (w : World) (v v2 : Value) (l m : List ActA) (h : ActsAt w v l) (h2 : ActsAt w v2 m) (many : Int) (hmany : I64 many) : Calls Try.prog 7 #[v, v2, .int .i64 many] w fun e w' => e = .returned (.bool true) ∧ Below w.heap.size w w' := by
  cases hf : fewA l 20
  · exact walk_no w v v2 l m h h2 many hf
  · cases hf2 : fewA m 20
    · exact walk_no2 w v v2 l m h h2 many hf hf2
    · exact walk_ok w v v2 l m h h2 many hmany hf hf2

set_option maxRecDepth 100000 in
theorem lifted (os : Os) (started : os.Started) (H : Type) (enc : TypeId × Value → H) :
    ReturnsInHanded {} Try.checked os 7 .any (Rows.networkLoopsSpec.pre6 enc Try.prog Try.f7 Rows.networkLoopsRow.domain false) (Rows.networkLoopsSpec.post enc Try.prog Try.f7 false true false false) := by
  refine returnsInHanded_of_change (C := Try.checked) own started (by kernel_rfl) Try.func7
    (ChangeSpec.witness6 (enc := enc) (C := Try.checked) false ⟨#[], #[.slice none 0 0, .slice none 0 0, .int .i64 0], []⟩ 8 (by kernel_rfl) (by kernel_rfl) (by kernel_rfl) (by kernel_rfl)) ?_
  intro W base args ds gs before hval0 hW hcnd _
  have hval : ∀ (j : Nat) t v, Try.f7.params[j]? = some t → args[j]? = some v → Value.okWide Try.prog W .any base t v := hval0
  have hW' := hW
  obtain ⟨p, q, hA0, hV, rfl, hfz, hnd⟩ := hW
  have hA : DataW.TrodAll enc Try.prog W 0 (fun _ => true) true Try.f7.params.toList args.toList ds p := hA0
  rw [Try.params7] at hA hval
  obtain ⟨v0, vs0, d0, ds0, p0, q0, hargs, rfl, rfl, h0, r0⟩ := trodAll_cons hA
  obtain ⟨v1, vs1, d1, ds1, p1, q1, rfl, rfl, rfl, h1, r1⟩ := trodAll_cons r0
  obtain ⟨v2, vs2, d2, ds2, p2, q2, rfl, rfl, rfl, h2, r2⟩ := trodAll_cons r1
  obtain ⟨rfl, rfl, rfl⟩ := trodAll_nil r2
  obtain rfl : args = #[v0, v1, v2] := by cases args; simp_all
  obtain ⟨sa, len, cap, rfl⟩ := okWide_slice Try.underlying39 (hval 0 39 v0 rfl rfl)
  obtain ⟨sb, len2, cap2, rfl⟩ := okWide_slice Try.underlying39 (hval 1 39 v1 rfl rfl)
  obtain ⟨a2, rfl, rfl, rfl, w2⟩ := open_int Try.underlying3 (hval 2 3 v2 rfl rfl) h2
  obtain ⟨l, hl⟩ := acts_open h0 rfl
  obtain ⟨m, hm⟩ := acts_open h1 rfl
  simp [Lit.wf] at w2
  refine (walk W _ _ l m hl hm a2 w2).mono fun e W' ⟨he, hb⟩ => ?_
  subst he
  exact ⟨_, rfl, law_post rfl (by kernel_rfl) (by rw [Try.params7]; intro t ht; simp at ht; rcases ht with rfl | rfl <;> exact ⟨by kernel_rfl, of_decide_eq_true (by kernel_rfl)⟩) rfl rfl rfl hW' hb⟩

set_option maxRecDepth 100000 in
theorem over : Rows.networkLoopsRow.holds Try.pinned (OpenSpec.ofChange Rows.networkLoopsSpec) :=
  OpenClaim.holds_of_wide 7 Try.f7 rfl rfl rfl rfl rfl rfl rfl ⟨rfl, rfl, rfl, rfl, rfl⟩ rfl rfl rfl rfl rfl (by kernel_rfl) Try.func7 (by kernel_rfl)
    (of_decide_eq_true (by kernel_rfl)) (by unfold Func.isWrapper; first | (rw [if_pos (by decide +kernel)]; kernel_rfl) | (rw [if_neg (by decide +kernel)]; exact ⟨rfl, rfl⟩))
    (fun os started H enc _ => lifted os started H enc)

/-- THE STATEMENT -/
theorem proved : Rows.NetworkLoopsSaid :=
  over
#print axioms proved
end Go.Proofs.Ytiindnmelegkgaa.networkLoops
