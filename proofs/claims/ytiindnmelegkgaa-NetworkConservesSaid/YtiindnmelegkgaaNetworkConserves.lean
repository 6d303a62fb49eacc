/- The theorem of stage 48: for any acts, the events that put a packet in flight balance those that remove one and the packets in flight; a delivered genuine packet lies in the history; without altering, redirecting and injecting all packets in flight are genuine. Condition: none beyond the statement's. -/
import Derived.Test.YtiindnmelegkgaaC6
namespace Go.Proofs.Ytiindnmelegkgaa.networkConserves
open Go.ChangeShapes Go.WideShapes Go.ChangeAt Go.RowKit
set_option linter.unusedSimpArgs false
set_option linter.unusedVariables false

set_option maxHeartbeats 1000000 in
set_option maxRecDepth 100000 in
theorem walk_no (w : World) (v : Value) (l : List ActA) (h : ActsAt w v l) (hf : fewA l 40 = false) : Calls Try.prog 4 #[v] w fun e w' => e = .returned (.bool true) ∧ Below w.heap.size w w' := by
  obtain ⟨sa, sc, hv⟩ := h.at_.1
  have HF := Lib.hid (few_any (w.alloc (.cells #[.bool false] 4)) v l (h.below ((Below.refl _ _).alloc (Nat.le_refl _) _)) 40 (by decide))
  rw [hf] at HF
  generalize l.length = n at hv
  subst hv
  clear hf h
  go_enter Try.func4, Try.ntmps4
  go_wp2_with fail
  refine HF.out.mono ?_
  rintro e w1 ⟨rfl, rfl⟩
  go_wp2_with fail
  refine (known_any _).mono ?_
  rintro e w4 ⟨rfl, hb4⟩
  have xr : w4.heap[w.heap.size]? = some (.cells #[.bool false] 4 (0, 0)) := (hb4.block _ (by simp)).trans (new_at rfl)
  have m0 : w4.cell? ⟨w.heap.size, 0, none⟩ = some (.bool false) := by rw [cell_of_row _ _ _ _ _ _ xr]; rfl
  have g0 := frozen_blk xr 0
  have HX := Lib.hid xr
  have HB := Lib.hid hb4
  clear xr hb4
  go_wp2_with fail
  obtain ⟨W4, hW4⟩ : ∃ W4, W4 = w4.setCell ⟨w.heap.size, 0, none⟩ (.bool true) := ⟨_, rfl⟩
  rw [← hW4]
  have e3 : W4.heap[w.heap.size]? = some (.cells #[.bool true] 4 (0, 0)) := by rw [hW4]; exact set_at HX.out
  have f0 : W4.cell? ⟨w.heap.size, 0, none⟩ = some (.bool true) := by rw [cell_of_row _ _ _ _ _ _ e3]; rfl
  exact bodyPost_ret (v := .bool true) (by simp [results, Try.results4, go_sem, f0]) rfl ⟨rfl, by
    rw [hW4]
    exact (((Below.refl _ _).alloc (Nat.le_refl _) _).trans (HB.out.mono (by simp))).setCell (p := ⟨_, _, _⟩) (Nat.le_refl _) _⟩
theorem walk (w : World) (v : Value) (l : List ActA) (h : ActsAt w v l) : Calls Try.prog 4 #[v] w fun e w' => e = .returned (.bool true) ∧ Below w.heap.size w w' := by
  cases hf : fewA l 40
  · exact walk_no w v l h hf
  · exact cons_walk w v l h hf

set_option maxRecDepth 100000 in
theorem lifted (os : Os) (started : os.Started) (H : Type) (enc : TypeId × Value → H) :
    ReturnsInHanded {} Try.checked os 4 .any (Rows.networkConservesSpec.pre6 enc Try.prog Try.f4 Rows.networkConservesRow.domain false) (Rows.networkConservesSpec.post enc Try.prog Try.f4 false true false false) := by
  refine returnsInHanded_of_change (C := Try.checked) own started (by kernel_rfl) Try.func4
    (ChangeSpec.witness6 (enc := enc) (C := Try.checked) false ⟨#[], #[.slice none 0 0], []⟩ 8 (by kernel_rfl) (by kernel_rfl) (by kernel_rfl) (by kernel_rfl)) ?_
  intro W base args ds gs before hval0 hW hcnd _
  have hval : ∀ (j : Nat) t v, Try.f4.params[j]? = some t → args[j]? = some v → Value.okWide Try.prog W .any base t v := hval0
  have hW' := hW
  obtain ⟨p, q, hA0, hV, rfl, hfz, hnd⟩ := hW
  have hA : DataW.TrodAll enc Try.prog W 0 (fun _ => true) true Try.f4.params.toList args.toList ds p := hA0
  rw [Try.params4] at hA hval
  obtain ⟨v0, vs0, d0, ds0, p0, q0, hargs, rfl, rfl, h0, r0⟩ := trodAll_cons hA
  obtain ⟨rfl, rfl, rfl⟩ := trodAll_nil r0
  obtain rfl : args = #[v0] := by cases args; simp_all
  obtain ⟨sa, len, cap, rfl⟩ := okWide_slice Try.underlying39 (hval 0 39 v0 rfl rfl)
  obtain ⟨l, hl⟩ := acts_open h0 rfl
  refine (walk W _ l hl).mono fun e W' ⟨he, hb⟩ => ?_
  subst he
  exact ⟨_, rfl, law_post rfl (by kernel_rfl) (by rw [Try.params4]; intro t ht; simp at ht; subst ht; exact ⟨by kernel_rfl, of_decide_eq_true (by kernel_rfl)⟩) rfl rfl rfl hW' hb⟩

set_option maxRecDepth 100000 in
theorem over : Rows.networkConservesRow.holds Try.pinned (OpenSpec.ofChange Rows.networkConservesSpec) :=
  OpenClaim.holds_of_wide 4 Try.f4 rfl rfl rfl rfl rfl rfl rfl ⟨rfl, rfl, rfl, rfl, rfl⟩ rfl rfl rfl rfl rfl (by kernel_rfl) Try.func4 (by kernel_rfl)
    (of_decide_eq_true (by kernel_rfl)) (by unfold Func.isWrapper; first | (rw [if_pos (by decide +kernel)]; kernel_rfl) | (rw [if_neg (by decide +kernel)]; exact ⟨rfl, rfl⟩))
    (fun os started H enc _ => lifted os started H enc)

/-- THE STATEMENT -/
theorem proved : Rows.NetworkConservesSaid :=
  over
#print axioms proved
end Go.Proofs.Ytiindnmelegkgaa.networkConserves
